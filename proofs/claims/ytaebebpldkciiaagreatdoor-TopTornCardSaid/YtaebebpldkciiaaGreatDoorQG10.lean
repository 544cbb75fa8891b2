/- Contracts and plain words, part 10: texts U7, U8, U9, RL3, CloneLg. -/
import Derived.Test.YtaebebpldkciiaaGreatDoorQG09
import Derived.Deep.RegionHeld
import Derived.Test.YtaebebpldkciiaaGreatDoorQG08
import Derived.Test.YtaebebpldkciiaaGreatDoorQG05
namespace Go.Proofs.YtaebebpldkciiaaGreatDoor
section
open Go.RowKit
section
variable {F G : Nat → Prop} {g : Nat} {S : Su} {c : Ce} {y : Lay} {w W W' : World}
theorem CeM.at_ (h : CeM F g S c y W) : CeAt F g S c W := ⟨y, h⟩
theorem CeM.setOw {base co : Nat} {A : Option Addr} {m : List Ow} (h : CeM F g S c y W) (hnew : W.ownsRow base 136 3 (.slice A m.length co) m.length (rowsV owV m)) (hs : ∀ k, F k → G k) (hG : ∀ b, G b → b < W.heap.size) (hm : ∀ k, (Value.slice A m.length co).ownBlock = some k → G k) :
  CeM G g S { c with ow := m } { y with oh := ⟨A, m.length, co⟩ } (W.setCell ⟨g, 20, none⟩ (.slice A m.length co)) := by
 have h' := h.mono hs hG
 have hcl : Clean G (fun _ => False) W (W.setCell ⟨g, 20, none⟩ (.slice A m.length co)) := (Clean.of_below (Below.refl _ _)).set _ ⟨_, _, h.cs, .inl rfl⟩
 have hne : ∀ {e : TypeId} {size n : Nat} {v : Value} {xs : List Value}, OwnF G W e size v n xs → e ≠ 102 → OwnF G (W.setCell ⟨g, 20, none⟩ (.slice A m.length co)) e size v n xs := fun ho he => ho.stay fun k hk => Below.heap_setCell _ _ _ _ (fun e => by
  have := ho.other h.cs (fun e => he e.symm)
  exact this (by rw [hk]; exact congrArg some e))
 refine ⟨fun b hb => by simp [World.setCell]; exact hG b hb, hs _ h.fg, ?_, h.fn, h.tn, h.fh, hne h'.fown (by decide), fun i hi => hcl.fl h' i hi (fun _ _ h => h), h.apart, rfl, hne ⟨own_mono hnew (Nat.zero_le _), hm⟩ (by decide), h'.lg, Clean.log (c := c) (y := y) hcl h', h'.lrow⟩
 exact heap_setCell_same _ _ _ _ _ _ h.cs
end
theorem offP_no {l : List Ow} {s b t : ByteArray} (h : (offP l s b t).2 ≠ 0) : (offP l s b t).1 = l := by
 unfold offP at h ⊢
 by_cases h1 : isO l s = true
 ·rw [if_pos h1] at h ⊢
  by_cases h2 : (chOff b t l[lowO l s]!).2 = 0
  ·rw [if_pos h2] at h; exact absurd rfl h
  ·rw [if_neg h2]
 ·rw [if_neg h1]
theorem accP_no {l : List Ow} {s b : ByteArray} (h : (accP l s b).2 ≠ 0) : (accP l s b).1 = l := by
 unfold accP at h ⊢
 by_cases h1 : isO l s = true
 ·rw [if_pos h1] at h ⊢
  by_cases h2 : (chAcc b l[lowO l s]!).2 = 0
  ·rw [if_pos h2] at h; exact absurd rfl h
  ·rw [if_neg h2]
 ·rw [if_neg h1]
def inpV (x : Inp) (A : Option Addr) (n c : Nat) : Value := .agg #[.int .i64 x.kind, .int .i64 x.time, .string x.call, .string x.by_, .string x.to_, .slice A n c, .int .i64 x.wake, .int .i64 x.slot, .bool x.lands]
def inpO (x : Inp) (A : Option Addr) (n c : Nat) : Obj := .cells #[.int .i64 x.kind, .int .i64 x.time, .string x.call, .string x.by_, .string x.to_, .slice A n c, .int .i64 x.wake, .int .i64 x.slot, .bool x.lands] 62
theorem own_grow {B : Nat} {w W : World} {base e size n : Nat} {v : Value} {xs : List Value} {F : Nat → Prop} (h : W.ownsRow base e size v n xs) (hB : w.heap.size ≤ base) (hz : B = W.heap.size) : ∀ k, v.ownBlock = some k → F k ∨ (w.heap.size ≤ k ∧ k < B) := fun k hk => by
 have := h.lt k hk
 exact .inr ⟨by omega, by omega⟩
theorem offer_call (A : Option Addr) (l : List Ow) (n c : Nat) (s b t : ByteArray) (w : World) (hA : OwA A n l w) (hok : OwOk l) (ht : t.size ≤ maxLen) :
  ((offP l s b t).2 ≠ 0 → Calls Tryz.prog 109 #[.slice A n c, .string s, .string b, .string t] w (NoP (offP l s b t).2 w)) ∧ ((offP l s b t).2 = 0 → Calls Tryz.prog 109 #[.slice A n c, .string s, .string b, .string t] w (YesP (offP l s b t).1 w)) := by
 unfold offP
 by_cases hi : isO l s = true
 ·rw [if_pos hi]
  by_cases hk : (chOff b t l[lowO l s]!).2 = 0
  ·rw [if_pos hk]
   refine ⟨fun h => absurd rfl h, fun _ => ?_⟩
   have h1 := hok.e _ (isO_spec hi).1
   exact Offer_ok A l n c s b t w hA hok ht hi hk (by rw [(chOff_ok h1 hk).2]; exact name_ne h1.call)
  ·rw [if_neg hk]
   exact ⟨fun _ => Offer_bad A l n c s b t w hA hok ht hi hk, fun h => absurd h hk⟩
 ·rw [if_neg hi]
  exact ⟨fun _ => Offer_none A l n c s b t w hA hok ht (by simpa using hi), fun h => absurd h (by simp)⟩
set_option maxRecDepth 100000 in
set_option maxHeartbeats 8000000 in
theorem offer_any {F : Nat → Prop} {g : Nat} {S : Su} {c : Ce} {y : Lay} {w : World} (h : CeM F g S c y w) (hok : CeOk c) (x : Inp) (A : Option Addr) (n cA : Nat) (ht : x.to_.size ≤ maxLen) :
  Calls Tryz.prog 64 #[.pointer (some ⟨g, 0, none⟩), inpV x A n cA] w (MethP F g S w ({ c with ow := (offP c.ow x.call x.by_ x.to_).1 }, (offP c.ow x.call x.by_ x.to_).2)) := by
 obtain ⟨V, hV⟩ : ∃ V, w.alloc (inpO x A n cA) = V := ⟨_, rfl⟩
 have hbV : Below w.heap.size w V := by rw [← hV]; exact (Below.refl _ _).alloc (Nat.le_refl _) _
 have hzV : V.heap.size = w.heap.size + 1 := by rw [← hV, size_al]
 have hgB : V.heap[w.heap.size]? = some (inpO x A n cA) := by rw [← hV]; exact heap_alloc_new _ _
 have hMV := h.below hbV
 have hgl : g < w.heap.size := h.bd g h.fg
 have HM := Lib.hid (fun (W : World) (hb : Below V.heap.size V W) => hMV.below hb)
 have HCa := Lib.hid (fun (W : World) (hb : Below V.heap.size V W) => offer_call y.oh.A c.ow y.oh.n y.oh.c x.call x.by_ x.to_ W (hMV.below hb).owa hok.ow ht)
 have HV := Lib.hid hV
 have HBV := Lib.hid hbV
 have HZV := Lib.hid hzV
 have HFb := Lib.hid h.bd
 have HCe := Lib.hid (fun (W : World) (hb : Below V.heap.size V W) => (show W.cell? ⟨g, 20, none⟩ = some (.slice y.oh.A y.oh.n y.oh.c) ∧ W.frozen? ⟨g, 20, none⟩ = false from ⟨(hMV.below hb).cell 20, (hMV.below hb).frozen 20⟩))
 unfold inpV
 unfold inpO at hgB hV HV
 obtain ⟨kd, tm, cl, by_, to_, tu, wk, sl, ld⟩ := x
 dsimp only at *
 have HBx := Lib.hid (fun (W : World) (hb : Below V.heap.size V W) => (show W.heap[w.heap.size]? = some (.cells #[.int .i64 kd, .int .i64 tm, .string cl, .string by_, .string to_, .slice A n cA, .int .i64 wk, .int .i64 sl, .bool ld] 62) from (hb.block _ (by omega)).trans hgB))
 obtain ⟨oA, hoA⟩ : ∃ oA, y.oh.A = oA := ⟨_, rfl⟩
 obtain ⟨on, hon⟩ : ∃ on, y.oh.n = on := ⟨_, rfl⟩
 obtain ⟨oc, hoc⟩ : ∃ oc, y.oh.c = oc := ⟨_, rfl⟩
 rw [hoA, hon, hoc] at HCa HCe
 have c20 := (HCe.out V (Below.refl _ _)).1
 have f20 := (HCe.out V (Below.refl _ _)).2
 have x2 : V.cell? ⟨w.heap.size, 2, none⟩ = some (.string cl) := cell_of_row _ _ 2 _ _ _ hgB
 have x3 : V.cell? ⟨w.heap.size, 3, none⟩ = some (.string by_) := cell_of_row _ _ 3 _ _ _ hgB
 have x4 : V.cell? ⟨w.heap.size, 4, none⟩ = some (.string to_) := cell_of_row _ _ 4 _ _ _ hgB
 obtain ⟨r, hr⟩ : ∃ r, offP c.ow cl by_ to_ = r := ⟨_, rfl⟩
 rw [hr] at HCa ⊢
 obtain ⟨m, k⟩ := r
 dsimp only at HCa ⊢
 have HR := Lib.hid hr
 clear hgB hbV hzV hMV hoA hon hoc hr h
 by_cases hk : k = 0
 ·subst hk
  have HY := Lib.hid (fun W hb => (HCa.out W hb).2 rfl)
  unfold YesP at HY
  clear HCa
  go_enter Tryz.func64, Tryz.ntmps64
  have HS := Lib.hid (fun (W : World) (hb : Below V.heap.size V W) => (show Below V.heap.size V W ∧ W.cell? ⟨g, 20, none⟩ = some (.slice oA on oc) ∧ W.cell? ⟨w.heap.size, 2, none⟩ = some (.string cl) ∧ W.cell? ⟨w.heap.size, 3, none⟩ = some (.string by_) ∧ W.cell? ⟨w.heap.size, 4, none⟩ = some (.string to_) from ⟨hb, (HCe.out W hb).1, cell_of_row _ _ 2 _ _ _ (HBx.out W hb), cell_of_row _ _ 3 _ _ _ (HBx.out W hb), cell_of_row _ _ 4 _ _ _ (HBx.out W hb)⟩))
  go_upto_region 1 with (fail)
  go_region_held3 (fun W => Below V.heap.size V W ∧ W.cell? ⟨g, 20, none⟩ = some (.slice oA on oc) ∧ W.cell? ⟨w.heap.size, 2, none⟩ = some (.string cl) ∧ W.cell? ⟨w.heap.size, 3, none⟩ = some (.string by_) ∧ W.cell? ⟨w.heap.size, 4, none⟩ = some (.string to_)) (first | assumption | exact (Below.refl _ _).drew | exact HS.out _ (Below.refl _ _).drew | exact HS.out _ (by assumption)) ((go_at_call 109; go_loud (refine (HY.out _ (by first | assumption | exact (Below.refl _ _).drew)).mono ?_; rintro e w1 ⟨A1, c1, rfl, ho, hb1⟩; have hb2 : Below V.heap.size V w1 := ((Below.refl V.heap.size V).drew).trans hb1; have HO := Lib.hid ho; clear ho)))
  have hM1 := HM.out w1 hb2
  have f20' := (HCe.out w1 hb2).2
  have HM1 := Lib.hid hM1
  have HB2 := Lib.hid hb2
  clear hM1 hb1 hb2 c20 f20 x2 x3 x4
  go_wp2_with fail
  go_ret
  have hz2 := HB2.out.size
  have hzV := HZV.out
  have hbd := HFb.out
  refine ⟨rfl, fun b => F b ∨ (w.heap.size ≤ b ∧ b < w1.heap.size), (HM1.out.setOw HO.out (fun _ h => .inl h) (fun b hb => hb.elim (fun h => by have := hbd b h; omega) (fun h => h.2)) (own_grow HO.out (by show w.heap.size ≤ V.heap.size; omega) rfl)).at_, ?_, fun b hb => hb.elim .inl (fun h => .inr h.1)⟩
  exact (Off.of_below (HBV.out.trans (HB2.out.mono HBV.out.size))).setCell (p := ⟨g, 20, none⟩) (.inl HM1.out.fg) _
 ·have HN := Lib.hid (fun W hb => (HCa.out W hb).1 hk)
  have HKn := Lib.hid hk
  clear hk
  unfold NoP at HN
  have hke : (k == 0) = false := by rw [beq_eq_false_iff_ne]; exact HKn.out
  clear HCa
  go_enter Tryz.func64, Tryz.ntmps64
  go_upto_region 1 with (fail)
  have r20 := cell_regrown c20
  have r2 := cell_regrown x2
  have r3 := cell_regrown x3
  have r4 := cell_regrown x4
  clear c20 f20 x2 x3 x4
  refine wp_region_quiet_below (by kernel_rfl) (by kernel_rfl) ?_
  repeat (go_big_quiet_step ((go_at_call 109; exact (HN.out _ (below_regrown V _ _)).regrown_of)))
  refine wpQuiet_nil ?_
  intro wz hwz
  have hbz : Below V.heap.size V wz := by obtain ⟨⟨dq, osq⟩, rfl⟩ := hwz; exact below_regrown _ _ _
  have hMz := Lib.hid (HM.out wz hbz)
  have HBz := Lib.hid hbz
  clear hwz hbz r20 r2 r3 r4
  go_wp2_with fail
  go_ret
  have e1 : ({ c with ow := m } : Ce) = c := by
   have := HR.out
   have h1 := offP_no (by rw [this]; exact HKn.out)
   rw [this] at h1
   have h2 : m = c.ow := h1
   rw [h2]
  rw [e1]
  exact ⟨rfl, F, hMz.out.at_, Off.of_below (HBV.out.trans (HBz.out.mono HBV.out.size)), fun _ h => .inl h⟩
theorem accept_call (A : Option Addr) (l : List Ow) (n c : Nat) (s b : ByteArray) (w : World) (hA : OwA A n l w) (hok : OwOk l) :
  ((accP l s b).2 ≠ 0 → Calls Tryz.prog 110 #[.slice A n c, .string s, .string b] w (NoP (accP l s b).2 w)) ∧ ((accP l s b).2 = 0 → Calls Tryz.prog 110 #[.slice A n c, .string s, .string b] w (YesP (accP l s b).1 w)) := by
 unfold accP
 by_cases hi : isO l s = true
 ·rw [if_pos hi]
  by_cases hk : (chAcc b l[lowO l s]!).2 = 0
  ·rw [if_pos hk]
   refine ⟨fun h => absurd rfl h, fun _ => ?_⟩
   have h1 := hok.e _ (isO_spec hi).1
   exact Accept_ok A l n c s b w hA hok hi hk (by rw [(chAcc_ok h1 hk).2]; exact name_ne h1.call)
  ·rw [if_neg hk]
   exact ⟨fun _ => Accept_bad A l n c s b w hA hok hi hk, fun h => absurd h hk⟩
 ·rw [if_neg hi]
  exact ⟨fun _ => Accept_none A l n c s b w hA hok (by simpa using hi), fun h => absurd h (by simp)⟩
set_option maxRecDepth 100000 in
set_option maxHeartbeats 8000000 in
theorem accept_any {F : Nat → Prop} {g : Nat} {S : Su} {c : Ce} {y : Lay} {w : World} (h : CeM F g S c y w) (hok : CeOk c) (x : Inp) (A : Option Addr) (n cA : Nat) :
  Calls Tryz.prog 65 #[.pointer (some ⟨g, 0, none⟩), inpV x A n cA] w (MethP F g S w ({ c with ow := (accP c.ow x.call x.by_).1 }, (accP c.ow x.call x.by_).2)) := by
 obtain ⟨V, hV⟩ : ∃ V, w.alloc (inpO x A n cA) = V := ⟨_, rfl⟩
 have hbV : Below w.heap.size w V := by rw [← hV]; exact (Below.refl _ _).alloc (Nat.le_refl _) _
 have hzV : V.heap.size = w.heap.size + 1 := by rw [← hV, size_al]
 have hgB : V.heap[w.heap.size]? = some (inpO x A n cA) := by rw [← hV]; exact heap_alloc_new _ _
 have hMV := h.below hbV
 have hgl : g < w.heap.size := h.bd g h.fg
 have HM := Lib.hid (fun (W : World) (hb : Below V.heap.size V W) => hMV.below hb)
 have HCa := Lib.hid (fun (W : World) (hb : Below V.heap.size V W) => accept_call y.oh.A c.ow y.oh.n y.oh.c x.call x.by_ W (hMV.below hb).owa hok.ow)
 have HV := Lib.hid hV
 have HBV := Lib.hid hbV
 have HZV := Lib.hid hzV
 have HFb := Lib.hid h.bd
 have HCe := Lib.hid (fun (W : World) (hb : Below V.heap.size V W) => (show W.cell? ⟨g, 20, none⟩ = some (.slice y.oh.A y.oh.n y.oh.c) ∧ W.frozen? ⟨g, 20, none⟩ = false from ⟨(hMV.below hb).cell 20, (hMV.below hb).frozen 20⟩))
 unfold inpV
 unfold inpO at hgB hV HV
 obtain ⟨kd, tm, cl, by_, to_, tu, wk, sl, ld⟩ := x
 dsimp only at *
 have HBx := Lib.hid (fun (W : World) (hb : Below V.heap.size V W) => (show W.heap[w.heap.size]? = some (.cells #[.int .i64 kd, .int .i64 tm, .string cl, .string by_, .string to_, .slice A n cA, .int .i64 wk, .int .i64 sl, .bool ld] 62) from (hb.block _ (by omega)).trans hgB))
 obtain ⟨oA, hoA⟩ : ∃ oA, y.oh.A = oA := ⟨_, rfl⟩
 obtain ⟨on, hon⟩ : ∃ on, y.oh.n = on := ⟨_, rfl⟩
 obtain ⟨oc, hoc⟩ : ∃ oc, y.oh.c = oc := ⟨_, rfl⟩
 rw [hoA, hon, hoc] at HCa HCe
 have c20 := (HCe.out V (Below.refl _ _)).1
 have f20 := (HCe.out V (Below.refl _ _)).2
 have x2 : V.cell? ⟨w.heap.size, 2, none⟩ = some (.string cl) := cell_of_row _ _ 2 _ _ _ hgB
 have x3 : V.cell? ⟨w.heap.size, 3, none⟩ = some (.string by_) := cell_of_row _ _ 3 _ _ _ hgB
 have x4 : V.cell? ⟨w.heap.size, 4, none⟩ = some (.string to_) := cell_of_row _ _ 4 _ _ _ hgB
 obtain ⟨r, hr⟩ : ∃ r, accP c.ow cl by_ = r := ⟨_, rfl⟩
 rw [hr] at HCa ⊢
 obtain ⟨m, k⟩ := r
 dsimp only at HCa ⊢
 have HR := Lib.hid hr
 clear hgB hbV hzV hMV hoA hon hoc hr h
 by_cases hk : k = 0
 ·subst hk
  have HY := Lib.hid (fun W hb => (HCa.out W hb).2 rfl)
  unfold YesP at HY
  clear HCa
  go_enter Tryz.func65, Tryz.ntmps65
  have HS := Lib.hid (fun (W : World) (hb : Below V.heap.size V W) => (show Below V.heap.size V W ∧ W.cell? ⟨g, 20, none⟩ = some (.slice oA on oc) ∧ W.cell? ⟨w.heap.size, 2, none⟩ = some (.string cl) ∧ W.cell? ⟨w.heap.size, 3, none⟩ = some (.string by_) ∧ W.cell? ⟨w.heap.size, 4, none⟩ = some (.string to_) from ⟨hb, (HCe.out W hb).1, cell_of_row _ _ 2 _ _ _ (HBx.out W hb), cell_of_row _ _ 3 _ _ _ (HBx.out W hb), cell_of_row _ _ 4 _ _ _ (HBx.out W hb)⟩))
  go_upto_region 1 with (fail)
  go_region_held3 (fun W => Below V.heap.size V W ∧ W.cell? ⟨g, 20, none⟩ = some (.slice oA on oc) ∧ W.cell? ⟨w.heap.size, 2, none⟩ = some (.string cl) ∧ W.cell? ⟨w.heap.size, 3, none⟩ = some (.string by_) ∧ W.cell? ⟨w.heap.size, 4, none⟩ = some (.string to_)) (first | assumption | exact (Below.refl _ _).drew | exact HS.out _ (Below.refl _ _).drew | exact HS.out _ (by assumption)) ((go_at_call 110; go_loud (refine (HY.out _ (by first | assumption | exact (Below.refl _ _).drew)).mono ?_; rintro e w1 ⟨A1, c1, rfl, ho, hb1⟩; have hb2 : Below V.heap.size V w1 := ((Below.refl V.heap.size V).drew).trans hb1; have HO := Lib.hid ho; clear ho)))
  have hM1 := HM.out w1 hb2
  have f20' := (HCe.out w1 hb2).2
  have HM1 := Lib.hid hM1
  have HB2 := Lib.hid hb2
  clear hM1 hb1 hb2 c20 f20 x2 x3 x4
  go_wp2_with fail
  go_ret
  have hz2 := HB2.out.size
  have hzV := HZV.out
  have hbd := HFb.out
  refine ⟨rfl, fun b => F b ∨ (w.heap.size ≤ b ∧ b < w1.heap.size), (HM1.out.setOw HO.out (fun _ h => .inl h) (fun b hb => hb.elim (fun h => by have := hbd b h; omega) (fun h => h.2)) (own_grow HO.out (by show w.heap.size ≤ V.heap.size; omega) rfl)).at_, ?_, fun b hb => hb.elim .inl (fun h => .inr h.1)⟩
  exact (Off.of_below (HBV.out.trans (HB2.out.mono HBV.out.size))).setCell (p := ⟨g, 20, none⟩) (.inl HM1.out.fg) _
 ·have HN := Lib.hid (fun W hb => (HCa.out W hb).1 hk)
  have HKn := Lib.hid hk
  clear hk
  unfold NoP at HN
  have hke : (k == 0) = false := by rw [beq_eq_false_iff_ne]; exact HKn.out
  clear HCa
  go_enter Tryz.func65, Tryz.ntmps65
  go_upto_region 1 with (fail)
  have r20 := cell_regrown c20
  have r2 := cell_regrown x2
  have r3 := cell_regrown x3
  have r4 := cell_regrown x4
  clear c20 f20 x2 x3 x4
  refine wp_region_quiet_below (by kernel_rfl) (by kernel_rfl) ?_
  repeat (go_big_quiet_step ((go_at_call 110; exact (HN.out _ (below_regrown V _ _)).regrown_of)))
  refine wpQuiet_nil ?_
  intro wz hwz
  have hbz : Below V.heap.size V wz := by obtain ⟨⟨dq, osq⟩, rfl⟩ := hwz; exact below_regrown _ _ _
  have hMz := Lib.hid (HM.out wz hbz)
  have HBz := Lib.hid hbz
  clear hwz hbz r20 r2 r3 r4
  go_wp2_with fail
  go_ret
  have e1 : ({ c with ow := m } : Ce) = c := by
   have := HR.out
   have h1 := accP_no (by rw [this]; exact HKn.out)
   rw [this] at h1
   have h2 : m = c.ow := h1
   rw [h2]
  rw [e1]
  exact ⟨rfl, F, hMz.out.at_, Off.of_below (HBV.out.trans (HBz.out.mono HBV.out.size)), fun _ h => .inl h⟩
end
section
open Go.RowKit
section
variable {F G : Nat → Prop} {g : Nat} {S : Su} {c : Ce} {y : Lay} {w W W' : World}
theorem CeM.fblk (h : CeM F g S c y w) (h0 : 0 < c.fl.length) : ∃ b, y.fh.A = some ⟨b, 0, none⟩ ∧ F b ∧ b < w.heap.size ∧ ∃ cur, w.heap[b]? = some (.cells cur 46 (0, 0)) := by
 obtain ⟨b, cap, hv, _, hb⟩ := h.fown.1.form h0
 have hv' : Value.slice y.fh.A y.fh.n y.fh.c = .slice (some ⟨b, 0, none⟩) c.fl.length cap := hv
 have hA : y.fh.A = some ⟨b, 0, none⟩ := by injection hv'
 have ho : y.fh.v.ownBlock = some b := by unfold Hd.v; rw [hA]; rfl
 exact ⟨b, hA, h.fown.2 b ho, hb, h.fown.blk ho⟩
theorem CeM.fown' (h : CeM F g S c y w) {b : Nat} (hA : y.fh.A = some ⟨b, 0, none⟩) : w.ownsRow 0 46 8 (.slice (some ⟨b, 0, none⟩) c.fl.length y.fh.c) c.fl.length (rowsV fmV y.fs) := by
 have := h.fown.1
 unfold Hd.v at this
 rw [hA, h.fh] at this
 exact this
theorem CeM.fcell (h : CeM F g S c y w) {b : Nat} (hA : y.fh.A = some ⟨b, 0, none⟩) (i : Nat) (hi : i < c.fl.length) (q : Nat) (hq : q < 8) : w.cell? ⟨b, i * 8 + q, none⟩ = (fmV y.fs[i]!)[q]? ∧ w.frozen? ⟨b, i * 8 + q, none⟩ = false := by
 have ho := h.fown' hA
 refine ⟨?_, ho.frozenAt _⟩
 rw [ho.cellAt (i * 8 + q) (by omega), rowsV_at fmV_len y.fs i (by rw [h.fn]; exact hi) q hq, getElem!_pos y.fs i (by rw [h.fn]; exact hi)]
theorem CeM.setFl {dirty : Nat → Prop} (h : CeM F g S c y W) (hs : ∀ k, F k → G k) (p : Nat) (hp : p < c.fl.length) (x' : Fm) (ts' : List Hd) (f' : Fl) (hcl : Clean F dirty W W') (hbd : ∀ b, G b → b < W'.heap.size) (hg : W'.heap[g]? = W.heap[g]?)
  (hrow : W'.ownsRow 0 46 8 y.fh.v c.fl.length (rowsV fmV (y.fs.set p x'))) (hfl : FlM G x' ts' f' W') (hd : ∀ i k, i < c.fl.length → i ≠ p → (Value.slice (y.fs[i]!).la (y.fs[i]!).ln (y.fs[i]!).lc).ownBlock = some k → ¬ dirty k)
  (hap : ∀ i k, i < c.fl.length → i ≠ p → (Value.slice x'.la x'.ln x'.lc).ownBlock = some k → (Value.slice (y.fs[i]!).la (y.fs[i]!).ln (y.fs[i]!).lc).ownBlock ≠ some k) :
  CeM G g S { c with fl := c.fl.set p f' } { y with fs := y.fs.set p x', ts := y.ts.set p ts' } W' := by
 have hlen : (c.fl.set p f').length = c.fl.length := List.length_set
 have hfs : ∀ i, i < c.fl.length → (y.fs.set p x')[i]! = if i = p then x' else y.fs[i]! := fun i hi => set_at y.fs p (by rw [h.fn]; exact hp) x' i (by rw [h.fn]; exact hi)
 have hts : ∀ i, i < c.fl.length → (y.ts.set p ts')[i]! = if i = p then ts' else y.ts[i]! := fun i hi => set_at y.ts p (by rw [h.tn]; exact hp) ts' i (by rw [h.tn]; exact hi)
 have hfl' : ∀ i, i < c.fl.length → (c.fl.set p f')[i]! = if i = p then f' else c.fl[i]! := fun i hi => set_at c.fl p hp f' i hi
 refine ⟨hbd, hs _ h.fg, hg.trans h.cs, by simp [h.fn], by simp [h.tn], by simp [h.fh], ⟨by rw [hlen]; exact hrow, fun k hk => hs k (h.fown.2 k hk)⟩, fun i hi => ?_, fun i j k hi hj hij => ?_, h.oh, (Clean.ow (c := c) (y := y) hcl h).mono hs, hs _ h.lg, Clean.log (c := c) (y := y) hcl h, fun k hk => hs k (h.lrow k hk)⟩
 ·have hi : i < c.fl.length := by rw [← hlen]; exact hi
  show FlM G (y.fs.set p x')[i]! (y.ts.set p ts')[i]! (c.fl.set p f')[i]! W'
  rw [hfs i hi, hts i hi, hfl' i hi]
  by_cases e : i = p
  ·rw [if_pos e, if_pos e, if_pos e]; exact hfl
  ·rw [if_neg e, if_neg e, if_neg e]; exact (hcl.fl h i hi (fun k hk => hd i k hi e hk)).mono hs
 ·have hi : i < c.fl.length := by rw [← hlen]; exact hi
  have hj : j < c.fl.length := by rw [← hlen]; exact hj
  show (Value.slice ((y.fs.set p x')[i]!).la ((y.fs.set p x')[i]!).ln ((y.fs.set p x')[i]!).lc).ownBlock = some k → (Value.slice ((y.fs.set p x')[j]!).la ((y.fs.set p x')[j]!).ln ((y.fs.set p x')[j]!).lc).ownBlock ≠ some k
  rw [hfs i hi, hfs j hj]
  by_cases e : i = p
  ·rw [if_pos e, if_neg (by omega)]
   exact fun hk => hap j k hj (by omega) hk
  ·rw [if_neg e]
   by_cases e2 : j = p
   ·rw [if_pos e2]
    exact fun hk hk2 => hap i k hi e hk2 hk
   ·rw [if_neg e2]; exact h.apart i j k hi hj hij
end
def ClP (w : World) (p : Option Addr) (k : Int) (e : Ending) (w' : World) : Prop := e = .returned (.tuple #[.pointer p, .int .i64 k]) ∧ Below w.heap.size w w'
set_option maxRecDepth 100000 in
set_option maxHeartbeats 4000000 in
theorem cleared_none {F : Nat → Prop} {g : Nat} {S : Su} {c : Ce} {y : Lay} {w : World} (h : CeM F g S c y w) (hok : CeOk c) (s : ByteArray) (hi : isO c.ow s = false) :
  Calls Tryz.prog 114 #[.pointer (some ⟨g, 0, none⟩), .string s] w (ClP w none 8) := by
 have HF := Lib.hid (find_any h hok s)
 unfold FindP at HF
 rw [hi] at HF
 unfold ClP
 generalize lowO c.ow s = p at *
 clear h hok hi
 go_enter Tryz.func114, Tryz.ntmps114
 go_wp2_with (go_at_call 107; go_loud (refine HF.out.mono ?_; rintro e w1 ⟨rfl, hb1⟩))
 go_ret2
 exact ⟨rfl, hb1⟩
theorem CeM.at_low {F : Nat → Prop} {g : Nat} {S : Su} {c : Ce} {y : Lay} {w : World} (h : CeM F g S c y w) (hok : CeOk c) (s : ByteArray) (hi : isO c.ow s = true) : lowO c.ow s < c.fl.length ∧ c.fl.length ≤ 24 ∧ y.fh.n = c.fl.length := by
 have h1 := (isO_spec hi).1
 have h2 := hok.len
 have h3 := hok.ow.n
 exact ⟨by omega, by omega, h.fh⟩
set_option maxRecDepth 100000 in
set_option maxHeartbeats 4000000 in
theorem cleared_state {F : Nat → Prop} {g : Nat} {S : Su} {c : Ce} {y : Lay} {w : World} (h : CeM F g S c y w) (hok : CeOk c) (s : ByteArray) (hi : isO c.ow s = true) (hn : (c.fl[lowO c.ow s]!).next.length = 0) :
  Calls Tryz.prog 114 #[.pointer (some ⟨g, 0, none⟩), .string s] w (ClP w none 11) := by
 have HF := Lib.hid (find_any h hok s)
 unfold FindP at HF
 rw [hi] at HF
 obtain ⟨h1, h2, h3⟩ := h.at_low hok s hi
 obtain ⟨b, hA, _, hb, _⟩ := h.fblk (by omega)
 have c5 := (h.fcell hA (lowO c.ow s) h1 5 (by omega)).1
 have hnn := (h.fl _ h1).next.1
 have c19 : w.cell? ⟨g, 19, none⟩ = some (.slice (some ⟨b, 0, none⟩) y.fh.n y.fh.c) := by rw [← hA]; exact h.cell 19
 have hgl := h.bd g h.fg
 rw [h3] at c19
 unfold ClP
 generalize lowO c.ow s = p at *
 generalize hx : y.fs[p]! = xf at *
 have c5' : w.cell? ⟨b, p * 8 + 5, none⟩ = some (.slice xf.na xf.nn xf.nc) := c5
 have hn0 : xf.nn = 0 := by have e : xf.nn = _ := hnn; rw [e]; exact hn
 rw [hn0] at c5'
 obtain ⟨nf, hnf⟩ : ∃ nf, c.fl.length = nf := ⟨_, rfl⟩
 rw [hnf] at h1 h2 c19
 have l0 : (0 : Int) ≤ (p : Int) := by omega
 have l1 : (p : Int) < (nf : Int) := by omega
 have HC := Lib.hid (fun (W : World) (hb2 : Below w.heap.size w W) => (show W.cell? ⟨b, p * 8 + 5, none⟩ = some (.slice xf.na 0 xf.nc) ∧ W.cell? ⟨g, 19, none⟩ = some (.slice (some ⟨b, 0, none⟩) nf y.fh.c) from ⟨(hb2.cell (p := ⟨b, p * 8 + 5, none⟩) hb).trans c5', (hb2.cell (p := ⟨g, 19, none⟩) hgl).trans c19⟩))
 clear h hok hi hA c5 c5' c19 hnn hn hn0 hnf hx h3
 go_enter Tryz.func114, Tryz.ntmps114
 go_wp2_with (go_at_call 107; go_loud (refine HF.out.mono ?_; rintro e w1 ⟨rfl, hb1⟩; obtain ⟨d1, d2⟩ := HC.out w1 hb1))
 go_ret2
 exact ⟨rfl, hb1⟩
set_option maxRecDepth 100000 in
set_option maxHeartbeats 4000000 in
theorem cleared_ok {F : Nat → Prop} {g : Nat} {S : Su} {c : Ce} {y : Lay} {w : World} (h : CeM F g S c y w) (hok : CeOk c) (s : ByteArray) (hi : isO c.ow s = true) (hn : 0 < (c.fl[lowO c.ow s]!).next.length) (b : Nat) (hA : y.fh.A = some ⟨b, 0, none⟩) :
  Calls Tryz.prog 114 #[.pointer (some ⟨g, 0, none⟩), .string s] w (ClP w (some ⟨b, lowO c.ow s * 8, none⟩) 0) := by
 have HF := Lib.hid (find_any h hok s)
 unfold FindP at HF
 rw [hi] at HF
 obtain ⟨h1, h2, h3⟩ := h.at_low hok s hi
 have hb : b < w.heap.size := by
  obtain ⟨b', hA', _, hb', _⟩ := h.fblk (by omega)
  rw [hA] at hA'; cases hA'; exact hb'
 have c5 := (h.fcell hA (lowO c.ow s) h1 5 (by omega)).1
 have hnn := (h.fl _ h1).next.1
 have c19 : w.cell? ⟨g, 19, none⟩ = some (.slice (some ⟨b, 0, none⟩) y.fh.n y.fh.c) := by rw [← hA]; exact h.cell 19
 have hgl := h.bd g h.fg
 rw [h3] at c19
 unfold ClP
 generalize lowO c.ow s = p at *
 generalize hx : y.fs[p]! = xf at *
 have c5' : w.cell? ⟨b, p * 8 + 5, none⟩ = some (.slice xf.na xf.nn xf.nc) := c5
 have hn0 : 0 < xf.nn := by have e : xf.nn = _ := hnn; rw [e]; exact hn
 obtain ⟨nf, hnf⟩ : ∃ nf, c.fl.length = nf := ⟨_, rfl⟩
 rw [hnf] at h1 h2 c19
 obtain ⟨xn, hxn⟩ : ∃ xn, xf.nn = xn := ⟨_, rfl⟩
 rw [hxn] at c5' hn0
 have l0 : (0 : Int) ≤ (p : Int) := by omega
 have l1 : (p : Int) < (nf : Int) := by omega
 have e0 : ((xn : Int) == 0) = false := by rw [beq_eq_false_iff_ne]; omega
 have HC := Lib.hid (fun (W : World) (hb2 : Below w.heap.size w W) => (show W.cell? ⟨b, p * 8 + 5, none⟩ = some (.slice xf.na xn xf.nc) ∧ W.cell? ⟨g, 19, none⟩ = some (.slice (some ⟨b, 0, none⟩) nf y.fh.c) from ⟨(hb2.cell (p := ⟨b, p * 8 + 5, none⟩) hb).trans c5', (hb2.cell (p := ⟨g, 19, none⟩) hgl).trans c19⟩))
 clear h hok hi hA c5 c5' c19 hnn hn hnf hx h3 hn0
 go_enter Tryz.func114, Tryz.ntmps114
 go_wp2_with (go_at_call 107; go_loud (refine HF.out.mono ?_; rintro e w1 ⟨rfl, hb1⟩; obtain ⟨d1, d2⟩ := HC.out w1 hb1))
 go_ret2
 exact ⟨rfl, hb1⟩
end
section
open Go.RowKit
section
variable {F G : Nat → Prop} {g : Nat} {S : Su} {c : Ce} {y : Lay} {w W W' : World}
theorem CeM.gne (h : CeM F g S c y w) {b : Nat} {cur : Array Value} (hb : w.heap[b]? = some (.cells cur 46 (0, 0))) : g ≠ b := fun e => by
 have := h.cs
 rw [e, hb] at this
 injection this with this
 injection this with _ h2
 exact absurd h2 (by decide)
theorem row_sets {dirty : Nat → Prop} {b n cap : Nat} {fs : List Fm} (hown : W.ownsRow 0 46 8 (.slice (some ⟨b, 0, none⟩) n cap) n (rowsV fmV fs)) (hfn : fs.length = n) (p : Nat) (hp : p < n) : ∀ (us : List (Nat × Value)) (x' : Fm) (_ : ∀ u ∈ us, u.1 < 8) (_ : us.foldl (fun l u => l.set u.1 u.2) (fmV fs[p]!) = fmV x'),
  (∃ cur, (us.foldl (fun w u => w.setCell ⟨b, p * 8 + u.1, none⟩ u.2) W).heap[b]? = some (.cells cur 46 (0, 0))) ∧
  W.heap.size = (us.foldl (fun w u => w.setCell ⟨b, p * 8 + u.1, none⟩ u.2) W).heap.size ∧
  (∀ k, k ≠ b → (us.foldl (fun w u => w.setCell ⟨b, p * 8 + u.1, none⟩ u.2) W).heap[k]? = W.heap[k]?) ∧
  Clean F dirty W (us.foldl (fun w u => w.setCell ⟨b, p * 8 + u.1, none⟩ u.2) W) ∧
  (us.foldl (fun w u => w.setCell ⟨b, p * 8 + u.1, none⟩ u.2) W).ownsRow 0 46 8 (.slice (some ⟨b, 0, none⟩) n cap) n (rowsV fmV (fs.set p x')) := by
 have hpf : p < fs.length := by rw [hfn]; exact hp
 obtain ⟨b', cap', hv, _, hb'⟩ := hown.form (by omega)
 have hb : ∃ cur, W.heap[b]? = some (.cells cur 46 (0, 0)) := (show OwnF (fun _ => True) W 46 8 (.slice (some ⟨b, 0, none⟩) n cap) n (rowsV fmV fs) from ⟨hown, fun _ _ => trivial⟩).blk rfl
 have gen : ∀ (us : List (Nat × Value)) (V : World) (l : List Value) (x' : Fm) (_ : ∀ u ∈ us, u.1 < 8) (_ : us.foldl (fun l u => l.set u.1 u.2) l = fmV x')
   (_ : ∃ cur, V.heap[b]? = some (.cells cur 46 (0, 0))) (_ : Clean F dirty W V) (_ : W.heap.size = V.heap.size) (_ : ∀ k, k ≠ b → V.heap[k]? = W.heap[k]?)
   (_ : ∃ xs : List Value, V.ownsRow 0 46 8 (.slice (some ⟨b, 0, none⟩) n cap) n xs ∧ l.length = 8 ∧ xs = (rowsV fmV fs).take (p * 8) ++ l ++ (rowsV fmV fs).drop ((p + 1) * 8)),
   (∃ cur, (us.foldl (fun w u => w.setCell ⟨b, p * 8 + u.1, none⟩ u.2) V).heap[b]? = some (.cells cur 46 (0, 0))) ∧
   W.heap.size = (us.foldl (fun w u => w.setCell ⟨b, p * 8 + u.1, none⟩ u.2) V).heap.size ∧
   (∀ k, k ≠ b → (us.foldl (fun w u => w.setCell ⟨b, p * 8 + u.1, none⟩ u.2) V).heap[k]? = W.heap[k]?) ∧
   Clean F dirty W (us.foldl (fun w u => w.setCell ⟨b, p * 8 + u.1, none⟩ u.2) V) ∧
   (us.foldl (fun w u => w.setCell ⟨b, p * 8 + u.1, none⟩ u.2) V).ownsRow 0 46 8 (.slice (some ⟨b, 0, none⟩) n cap) n (rowsV fmV (fs.set p x')) := by
  intro us
  induction us with
  | nil =>
   intro V l x' _ hl hb hcl hs hk ⟨xs, hx, _, hxs⟩
   simp only [List.foldl_nil] at hl ⊢
   subst hl
   rw [rowsV_put fmV_len fs p hpf x'] at hxs
   exact ⟨hb, hs, hk, hcl, hxs ▸ hx⟩
  | cons u us ih =>
   intro V l x' hu hl hb hcl hs hk ⟨xs, hx, hl8, hxs⟩
   obtain ⟨cur, hcur⟩ := hb
   have h8 := hu u (by simp)
   have hst := hx.stored (p * 8 + u.1) u.2
   refine ih _ (l.set u.1 u.2) x' (fun v hv => hu v (by simp [hv])) hl (set_typed hcur _ _ rfl) (hcl.set _ ⟨cur, 46, hcur, .inr (.inl rfl)⟩) (by rw [hs]; simp [World.setCell]) (fun k hkb => (Below.heap_setCell _ _ _ _ hkb).trans (hk k hkb)) ⟨_, hst.1, by simp [hl8], ?_⟩
   rw [hxs]
   have e1 := rowsV_len fmV_len (fs.take p)
   have e2 : ((rowsV fmV fs).take (p * 8)).length = p * 8 := by
    rw [rowsV_take fmV_len p fs (by omega), e1, List.length_take, Nat.min_eq_left (by omega)]
   rw [List.append_assoc, List.set_append_right _ _ (by rw [e2]; omega), e2, Nat.add_sub_cancel_left, List.set_append_left _ _ (by rw [hl8]; exact h8), ← List.append_assoc]
 intro us x' hu hx
 refine gen us W (fmV fs[p]!) x' hu hx hb (Clean.of_below (Below.refl _ _)) rfl (fun _ _ => rfl) ⟨_, hown, rfl, ?_⟩
 have e := rowsV_put fmV_len fs p hpf fs[p]!
 rw [e, getElem!_pos fs p hpf, List.set_getElem_self]
theorem CeM.setCells (h : CeM F g S c y W) {b : Nat} (hA : y.fh.A = some ⟨b, 0, none⟩) (p : Nat) (hp : p < c.fl.length) (us : List (Nat × Value)) (x' : Fm) (hu : ∀ u ∈ us, u.1 < 8) (hx : us.foldl (fun l u => l.set u.1 u.2) (fmV y.fs[p]!) = fmV x') :
  (∃ cur, (us.foldl (fun w u => w.setCell ⟨b, p * 8 + u.1, none⟩ u.2) W).heap[b]? = some (.cells cur 46 (0, 0))) ∧
  W.heap.size = (us.foldl (fun w u => w.setCell ⟨b, p * 8 + u.1, none⟩ u.2) W).heap.size ∧
  (∀ k, k ≠ b → (us.foldl (fun w u => w.setCell ⟨b, p * 8 + u.1, none⟩ u.2) W).heap[k]? = W.heap[k]?) ∧
  Clean F (fun _ => False) W (us.foldl (fun w u => w.setCell ⟨b, p * 8 + u.1, none⟩ u.2) W) ∧
  (us.foldl (fun w u => w.setCell ⟨b, p * 8 + u.1, none⟩ u.2) W).ownsRow 0 46 8 (.slice (some ⟨b, 0, none⟩) c.fl.length y.fh.c) c.fl.length (rowsV fmV (y.fs.set p x')) :=
 row_sets (h.fown' hA) h.fn p hp us x' hu hx
end
set_option maxRecDepth 100000 in
set_option maxHeartbeats 8000000 in
theorem refuse_any {F : Nat → Prop} {g : Nat} {S : Su} {c : Ce} {y : Lay} {w : World} (h : CeM F g S c y w) (hok : CeOk c) (x : Inp) (A : Option Addr) (n cA : Nat) :
  Calls Tryz.prog 68 #[.pointer (some ⟨g, 0, none⟩), inpV x A n cA] w (MethP F g S w (if refuseE c x = 0 then (setF c x (refuseF c x), 0) else (c, refuseE c x))) := by
 obtain ⟨V, hV⟩ : ∃ V, w.alloc (inpO x A n cA) = V := ⟨_, rfl⟩
 have hbV : Below w.heap.size w V := by rw [← hV]; exact (Below.refl _ _).alloc (Nat.le_refl _) _
 have hgB : V.heap[w.heap.size]? = some (inpO x A n cA) := by rw [← hV]; exact heap_alloc_new _ _
 have hMV := h.below hbV
 have HV := Lib.hid hV
 have HBV := Lib.hid hbV
 have x2 : V.cell? ⟨w.heap.size, 2, none⟩ = some (.string x.call) := cell_of_row _ _ 2 _ _ _ hgB
 have HM := Lib.hid (fun (W : World) (hb : Below V.heap.size V W) => hMV.below hb)
 unfold inpV
 unfold inpO at hV HV
 by_cases h1 : isO c.ow x.call = false
 ·have HE : Hid (refuseE c x = 8) := Lib.hid (by unfold refuseE; rw [if_pos h1])
  rw [HE.out, if_neg (by decide)]
  have HC := Lib.hid (cleared_none hMV hok x.call h1)
  unfold ClP at HC
  have HMV := Lib.hid hMV
  clear hMV h hok h1 hgB hbV
  go_enter Tryz.func68, Tryz.ntmps68
  go_wp2_with (go_at_call 114; go_loud (refine HC.out.mono ?_; rintro e w1 ⟨rfl, hb1⟩))
  go_ret
  exact ⟨rfl, F, (HM.out _ hb1).at_, Off.of_below (HBV.out.trans (hb1.mono HBV.out.size)), fun _ h => .inl h⟩
 have h1' : isO c.ow x.call = true := by simpa using h1
 by_cases h2 : (flOf c x).next.length = 0
 ·have HE : Hid (refuseE c x = 11) := Lib.hid (by unfold refuseE; rw [if_neg h1, if_pos h2])
  rw [HE.out, if_neg (by decide)]
  have HC := Lib.hid (cleared_state hMV hok x.call h1' h2)
  unfold ClP at HC
  have HMV := Lib.hid hMV
  clear hMV h hok h1 h1' h2 hgB hbV
  go_enter Tryz.func68, Tryz.ntmps68
  go_wp2_with (go_at_call 114; go_loud (refine HC.out.mono ?_; rintro e w1 ⟨rfl, hb1⟩))
  go_ret
  exact ⟨rfl, F, (HM.out _ hb1).at_, Off.of_below (HBV.out.trans (hb1.mono HBV.out.size)), fun _ h => .inl h⟩
 have HE : Hid (refuseE c x = 0) := Lib.hid (by unfold refuseE; rw [if_neg h1, if_neg h2])
 rw [HE.out, if_pos rfl]
 obtain ⟨p1, p2, p3⟩ := hMV.at_low hok x.call h1'
 obtain ⟨b, hA, hFb, hbl, hbc⟩ := hMV.fblk (by omega)
 have HC := Lib.hid (cleared_ok hMV hok x.call h1' (by unfold flOf at h2; omega) b hA)
 unfold ClP at HC
 have HFb := Lib.hid hFb
 have HA := Lib.hid hA
 have HP := Lib.hid p1
 have HCe := Lib.hid (fun (W : World) (hb : Below V.heap.size V W) (q : Nat) (hq : q < 8) => (hMV.below hb).fcell hA (lowO c.ow x.call) p1 q hq)
 have HS : Hid (setF c x (refuseF c x) = { c with fl := c.fl.set (lowO c.ow x.call) (refuseF c x) }) := Lib.hid rfl
 have HFo : Hid (flOf c x = c.fl[lowO c.ow x.call]!) := Lib.hid rfl
 obtain ⟨p, hp⟩ : ∃ p, lowO c.ow x.call = p := ⟨_, rfl⟩
 rw [hp] at HC HCe HS HP HFo
 clear hMV h hok h1 h1' h2 hgB hbV p1 p2 p3 hbl hbc hFb hA hp
 go_enter Tryz.func68, Tryz.ntmps68
 go_wp2_with (go_at_call 114; go_loud (refine HC.out.mono ?_; rintro e w1 ⟨rfl, hb1⟩; have c5 := (HCe.out w1 hb1 5 (by decide)).1; have f5 := (HCe.out w1 hb1 5 (by decide)).2; have c7 := (HCe.out w1 hb1 7 (by decide)).1; have f7 := (HCe.out w1 hb1 7 (by decide)).2; simp only [fmV, List.getElem?_cons_succ, List.getElem?_cons_zero] at c5 c7; have HB1 := Lib.hid hb1; clear hb1))
 go_ret
 have hM1 := HM.out w1 HB1.out
 obtain ⟨s1, s2, s3, s4, s5⟩ := hM1.setCells HA.out p HP.out [(5, .slice none 0 0), (7, .int .i64 0)] { y.fs[p]! with na := none, nn := 0, nc := 0, nland := 0 } (by intro u hu; simp only [List.mem_cons, List.not_mem_nil, or_false] at hu; rcases hu with rfl | rfl <;> decide) rfl
 simp only [List.foldl_cons, List.foldl_nil] at s1 s2 s3 s4 s5
 have hold := s4.fl hM1 p HP.out (fun _ _ h => h)
 obtain ⟨b', hA', _, _, cur, hbc⟩ := hM1.fblk (by have := HP.out; omega)
 rw [HA.out] at hA'; cases hA'
 refine ⟨rfl, F, ?_, ?_, fun _ h => .inl h⟩
 ·rw [HS.out]
  refine CeM.at_ (y := { y with fs := y.fs.set p { y.fs[p]! with na := none, nn := 0, nc := 0, nland := 0 }, ts := y.ts.set p y.ts[p]! }) ?_
  refine hM1.setFl (fun _ h => h) p HP.out _ y.ts[p]! (refuseF c x) s4 (fun b hb => by rw [← s2]; exact hM1.bd b hb) (s3 g (hM1.gne hbc)) ?_ ?_ (fun _ _ _ _ _ h => h) (fun i k hi hne hk => ?_)
  ·have e : y.fh.v = .slice (some ⟨b, 0, none⟩) c.fl.length y.fh.c := by unfold Hd.v; rw [HA.out, hM1.fh]
   rw [e]; exact s5
  ·have := HFo.out
   exact ⟨hold.call.trans (by rw [← this]; rfl), hold.wake.trans (by rw [← this]; rfl), hold.slot.trans (by rw [← this]; rfl), hold.lands.trans (by rw [← this]; rfl), hold.land.trans (by rw [← this]; rfl), rfl, by rw [← this] at hold; exact hold.ln, by rw [← this] at hold; exact hold.tl, by rw [← this] at hold; exact hold.legs, by rw [← this] at hold; exact hold.leg, TuM.nil _ _⟩
  ·exact hM1.apart p i k HP.out hi (fun e => hne e.symm) hk
 ·exact ((Off.of_below (HBV.out.trans (HB1.out.mono HBV.out.size))).setCell (p := ⟨b, p * 8 + 5, none⟩) (.inl HFb.out) _).setCell (p := ⟨b, p * 8 + 7, none⟩) (.inl HFb.out) _
end
section
open Go.RowKit
open Go.Lib hiding intOf
section
variable {P : Program}
theorem step_append_row {ops : Array Oper} {o : Oper} {a : Act} {K : Act → World → Prop} {Q : Exit → Act → World → Prop} {E : Prop} (W : World) (cs : Array Value) (N : Nat) (hgd : o.guard = none) (s x : Operand) (t : TypeId)
  (ho : o.op = .call { callee := .builtin .append, args := #[s, x], argTypes := #[t, t] })
  (base : Nat) (e : TypeId) (i : TypeInfo) (z : Value) (size bytes : Nat) (ht : P.underlying t = some (.slice e)) (hi : P.info? e = some i) (hz : i.zero = some z)
  (hsize : i.size = size) (hby : i.bytes = bytes) (hzs : z.cells.size = size) (hsz : 0 < size)
  (v : Value) (n : Nat) (xs : List Value) (hs : a.eval s = v) (hown : W.ownsRow base e size v n xs) (hcs : cs.size = size) (h1 : cs.all (·.oneCell') = true) (hN : W.heap[N]? = some (.cells cs e (0, 0)))
  (hx : a.eval x = .slice (some ⟨N, 0, none⟩) 1 1) (hn : n + 1 ≤ 100000000) (hbytes : bytes ≤ 1000) (hbase : base ≤ W.heap.size)
  (h : ∀ g cap w', w'.ownsRow base e size (.slice (some ⟨g, 0, none⟩) (n + 1) cap) (n + 1) (xs ++ cs.toList) → W.grownBy w' v.ownBlock → (v.ownBlock = some g ∨ g = W.heap.size) → g < w'.heap.size →
   K (a.put o.dst (.slice (some ⟨g, 0, none⟩) (n + 1) cap)) w') : if Region.wanted o (yielded ops a.tmps) = true then Oper.wp P o a W K Q else E :=
 step_append_lies W hgd s x t ho base e i z size bytes ht hi hz hsize hby hzs hsz v n xs hs hown ⟨N, 0, none⟩ 1 1 cs.toList hx (by simp [hcs]) (fun j u hu => by
   rw [Addr.add_mid, Nat.zero_add, cell_of_row _ _ _ _ _ _ hN]
   simpa using hu) (fun u hu => (Array.all_eq_true_iff_forall_mem.1 h1) u (by simpa using hu)) (by omega) (by simp only [maxLen]; omega)
  (Nat.le_trans (Nat.mul_le_mul hn hbytes) (by decide)) hbase W.heap.size rfl h
end
theorem last_some {l : List Ent} (h : 0 < l.length) : ∃ e, l[l.length - 1]? = some e ∧ lastT l = e.time := by
 refine ⟨l[l.length - 1], List.getElem?_eq_getElem (by omega), ?_⟩
 unfold lastT
 rw [List.getElem?_eq_getElem (by omega)]
 rfl
def AddP (g : Nat) (A : Option Addr) (l : List Ent) (e : Ent) (w : World) (y : Ending) (w' : World) : Prop :=
 ∃ A' c', y = .returned (.tuple #[.int .i64 ((l.length : Int) + 1), .int .i64 0]) ∧ LogA g A' c' (l ++ [e]) w' ∧ Below g w w' ∧ OffLog g A w w' ∧ (∀ a, A' = some a → (∃ a0, A = some a0 ∧ a0.block = a.block) ∨ w.heap.size ≤ a.block)
theorem LogA.stored {g c : Nat} {A : Option Addr} {l : List Ent} {w W w3 : World} {g3 cap3 : Nat} {e : Ent} (h0 : LogA g A c l w) (hbW : Below w.heap.size w W)
  (hown3 : w3.ownsRow (g + 1) 78 4 (.slice (some ⟨g3, 0, none⟩) (l.length + 1) cap3) (l.length + 1) (l.flatMap rowE ++ rowE e)) (hg3 : W.grownBy w3 (Value.slice A l.length c).ownBlock) (hat : (Value.slice A l.length c).ownBlock = some g3 ∨ w.heap.size ≤ g3) (q : Nat) :
  AddP g A l e w (.returned (.tuple #[.int .i64 ((l.length : Int) + 1), .int .i64 0])) ((w3.setCell ⟨g, 0, none⟩ (.slice (some ⟨g3, 0, none⟩) (l.length + 1) cap3)).drewN q) := by
 have hlt := h0.lt
 have hW := h0.below hbW
 have hne : (Value.slice A l.length c).ownBlock ≠ some g := fun x => by have := (h0.2.lt g x).1; omega
 have hb3 : w3.heap[g]? = some (.cells #[.slice A l.length c] 123 (0, 0)) := (hg3.block g hW.lt (fun x => hne x.symm)).trans hW.1
 have hS := grown_setCell w3 g 0 (.slice (some ⟨g3, 0, none⟩) (l.length + 1) cap3)
 have hs3 : w.heap.size ≤ w3.heap.size := Nat.le_trans hbW.size hg3.size
 refine ⟨some ⟨g3, 0, none⟩, cap3, rfl, ⟨?_, ?_⟩, ?_, fun k hk hkg hA => ?_, fun a ha => ?_⟩
 ·rw [List.length_append, List.length_singleton]
  exact heap_setCell_same _ _ _ _ _ _ hb3
 ·rw [List.length_append, List.length_singleton, List.flatMap_append]
  rw [show [e].flatMap rowE = rowE e by simp]
  exact hown3.kept (grown_drewN hS q) (.inr fun x => by have := (hown3.lt g x).1; omega)
 ·refine below_drewN (((hbW.mono (Nat.le_of_lt hlt)).grown hg3 (by have := hbW.size; omega) (fun k x => ?_)).setCell (p := ⟨g, 0, none⟩) (Nat.le_refl _) _) q
  have := (h0.2.lt k x).1; omega
 ·show (w3.setCell ⟨g, 0, none⟩ _).heap[k]? = _
  refine (hS.block k (by omega) (fun x => hkg (by cases x; rfl))).trans ((hg3.block k (Nat.lt_of_lt_of_le hk hbW.size) (fun x => ?_)).trans (hbW.block k hk))
  cases A with
  | none => simp [Value.ownBlock] at x
  | some a => exact hA a rfl (by simpa [Value.ownBlock] using x.symm)
 ·cases ha
  rcases hat with x | x
  ·cases A with
   | none => simp [Value.ownBlock] at x
   | some a => exact .inl ⟨a, rfl, by simpa [Value.ownBlock] using x⟩
  ·exact .inr x
set_option maxRecDepth 100000 in
set_option maxHeartbeats 4000000 in
theorem Add_ok {g c : Nat} {A : Option Addr} {l : List Ent} {w : World} (h : LogA g A c l w) (t : Int) (k x : ByteArray) (hw : Wf (newE l t k x)) (hc : addC l t k x = 0) (hl : l.length ≤ 400) :
  Calls Tryz.prog 30 #[.pointer (some ⟨g, 0, none⟩), .int .i64 t, .string k, .string x] w (AddP g A l (newE l t k x) w) := by
 have hck : chk (newE l t k x) = 0 := by
  unfold addC at hc
  by_cases h0 : chk (newE l t k x) = 0
  ·exact h0
  ·rw [if_pos h0] at hc; exact absurd hc h0
 have hlast : ¬ (0 < l.length ∧ t < lastT l) := by
  unfold addC at hc
  rw [if_neg (by simp [hck])] at hc
  intro h1
  rw [if_pos h1] at hc
  cases hc
 have HC := Lib.hid (fun W => CheckE_any _ W hw)
 rw [hck] at HC
 unfold valE newE at HC
 simp only at HC
 have HL := Lib.hid h
 have cg := h.cell
 have hg := h.lt
 obtain ⟨i0, J0, J1, J2, J3⟩ := info_parts ent_info
 have hn5 : ¬ l.length = 500 := by omega
 have hbn : Below w.heap.size w (w.alloc (.cells #[.int .i64 ((l.length : Int) + 1), .int .i64 t, .string k, .string x] 78)) := (Below.refl _ _).alloc (Nat.le_refl _) _
 have HBn := Lib.hid hbn
 have hnew := heap_alloc_new w (.cells #[.int .i64 ((l.length : Int) + 1), .int .i64 t, .string k, .string x] 78)
 have HNew := Lib.hid hnew
 have hts : (w.alloc (.cells #[.int .i64 ((l.length : Int) + 1), .int .i64 t, .string k, .string x] 78)).heap.size = w.heap.size + 1 := World.size_alloc _ _
 have HTs := Lib.hid hts
 clear hbn hnew hts hc hck h
 by_cases hz : l.length = 0
 ·have hz0 : ¬ 0 < l.length := by omega
  have HZ := Lib.hid hz
  clear hlast hz
  go_enter Tryz.func30, Tryz.ntmps30
  go_wp2_with fail
  refine (HC.out _).mono ?_
  rintro e w1 ⟨rfl, hb1⟩
  have K1 := (HBn.out.block)
  have hh1 : w1.heap[w.heap.size]? = some (.cells #[.int .i64 ((l.length : Int) + 1), .int .i64 t, .string k, .string x] 78 (0, 0)) := (hb1.block w.heap.size (by rw [HTs.out]; omega)).trans HNew.out
  have hB1 : Below w.heap.size w w1 := HBn.out.trans (hb1.mono (by rw [HTs.out]; omega))
  have hL1 := HL.out.below hB1
  have hz1 : w.heap.size < w1.heap.size := by have := hb1.size; rw [HTs.out] at this; omega
  have q0 := cell_of_row _ _ 0 _ _ _ hh1
  have q1 := cell_of_row _ _ 1 _ _ _ hh1
  have q2 := cell_of_row _ _ 2 _ _ _ hh1
  have q3 := cell_of_row _ _ 3 _ _ _ hh1
  have cg1 := hL1.cell
  have fg1 := hL1.frozen
  have HL1 := Lib.hid hL1
  have HB1 := Lib.hid hB1
  have hga : ∀ q o, ((w1.drewN q).alloc o).heap[g]? = some (.cells #[.slice A l.length c] 123 (0, 0)) := fun q o => ((World.grownBy_alloc (w1.drewN q) o none).block g hL1.lt (by simp)).trans hL1.1
  have ca : ∀ q o, ((w1.drewN q).alloc o).cell? ⟨g, 0, none⟩ = some (.slice A l.length c) := fun q o => cell_of_row _ g 0 _ 123 (0, 0) (hga q o)
  have hlg1 := hL1.lt
  clear hga hL1 hB1 hb1 hh1
  go_wp2_with fail
  go_region_law (refine step_append_row _ #[.int .i64 ((l.length : Int) + 1), .int .i64 t, .string k, .string x] w1.heap.size rfl (.tmp 50) (.tmp 52) 75 rfl (g + 1) 78 i0 _ 4 48 Tryz.underlying75 J0 J1 J2 J3 rfl (by decide) (.slice A l.length c) l.length (l.flatMap rowE) rfl (HL1.out.2.alloc _) rfl (by simp [Value.oneCell']) (by exact heap_alloc_new w1 _) rfl (by omega) (by omega) (by simp; omega) ?_; intro g3 cap3 w3 hown3 hg3 hat3 hlt3; have hb3 : w3.heap[g]? = some (.cells #[.slice A l.length c] 123 (0, 0)) := (hg3.block g (by exact Nat.lt_of_lt_of_le hlg1 (World.grownBy_alloc w1 _ none).size) (fun e => by have := (HL1.out.2.lt g e.symm).1; omega)).trans (((World.grownBy_alloc w1 _ none).block g hlg1 (by simp)).trans HL1.out.1); have d0 := cell_of_row w3 g 0 _ 123 (0, 0) hb3; have e0 := frozen_of_row w3 g 0 _ 123 hb3)
  all_goals go_wp2
  all_goals go_ret2
  all_goals
   have hgr : w1.grownBy w3 (Value.slice A l.length c).ownBlock := grown_trans (grown_trans (grown_drewN ⟨rfl, rfl, rfl, Nat.le_refl _, fun _ _ _ => rfl⟩ _) (World.grownBy_alloc _ _ _)) hg3
   have hst := LogA.stored (e := newE l t k x) HL.out HB1.out (by exact hown3) hgr (by exact hat3.imp id (fun e => by rw [e]; have := HB1.out.size; simp; omega)) 0
   obtain ⟨A', c', _, f1, f2, f3, f4⟩ := hst
   exact ⟨A', c', rfl, f1, f2, f3, f4⟩
 ·obtain ⟨e, he, hle⟩ := last_some (l := l) (by omega)
  obtain ⟨m, hm⟩ : ∃ m, l.length - 1 = m := ⟨_, rfl⟩
  have hlt : ¬ t < e.time := by rw [← hle]; intro h1; exact hlast ⟨by omega, h1⟩
  rw [hm] at he
  have hz0 : 0 < l.length := by omega
  have hji : (l.length : Int) - 1 = (m : Int) := by omega
  have hiw : IntKind.i64.wrap (m : Int) = (m : Int) := IntWalk.i64_in _ (by omega)
  have hm0 : (0 : Int) ≤ (m : Int) := by omega
  have hml : m < l.length := by omega
  have hml' : (m : Int) < (l.length : Int) := by omega
  have dl : decide (t < e.time) = false := by simp; omega
  clear hlast hz hle hm
  go_enter Tryz.func30, Tryz.ntmps30
  go_wp2_with fail
  refine (HC.out _).mono ?_
  rintro e' w1 ⟨rfl, hb1⟩
  have K1 := (HBn.out.block)
  have hh1 : w1.heap[w.heap.size]? = some (.cells #[.int .i64 ((l.length : Int) + 1), .int .i64 t, .string k, .string x] 78 (0, 0)) := (hb1.block w.heap.size (by rw [HTs.out]; omega)).trans HNew.out
  have hB1 : Below w.heap.size w w1 := HBn.out.trans (hb1.mono (by rw [HTs.out]; omega))
  have hL1 := HL.out.below hB1
  have hz1 : w.heap.size < w1.heap.size := by have := hb1.size; rw [HTs.out] at this; omega
  have q0 := cell_of_row _ _ 0 _ _ _ hh1
  have q1 := cell_of_row _ _ 1 _ _ _ hh1
  have q2 := cell_of_row _ _ 2 _ _ _ hh1
  have q3 := cell_of_row _ _ 3 _ _ _ hh1
  have cg1 := hL1.cell
  have fg1 := hL1.frozen
  obtain ⟨b, hAb, hgb, hbl, _, q5, _, _⟩ := hL1.ent he
  subst hAb
  have HL1 := Lib.hid hL1
  have HB1 := Lib.hid hB1
  have hga : ∀ q o, ((w1.drewN q).alloc o).heap[g]? = some (.cells #[.slice (some ⟨b, 0, none⟩) l.length c] 123 (0, 0)) := fun q o => ((World.grownBy_alloc (w1.drewN q) o none).block g hL1.lt (by simp)).trans hL1.1
  have ca : ∀ q o, ((w1.drewN q).alloc o).cell? ⟨g, 0, none⟩ = some (.slice (some ⟨b, 0, none⟩) l.length c) := fun q o => cell_of_row _ g 0 _ 123 (0, 0) (hga q o)
  have hlg1 := hL1.lt
  clear hga hL1 hB1 hb1 hh1
  go_wp2_with fail
  go_region_law (refine step_append_row _ #[.int .i64 ((l.length : Int) + 1), .int .i64 t, .string k, .string x] w1.heap.size rfl (.tmp 50) (.tmp 52) 75 rfl (g + 1) 78 i0 _ 4 48 Tryz.underlying75 J0 J1 J2 J3 rfl (by decide) (.slice (some ⟨b, 0, none⟩) l.length c) l.length (l.flatMap rowE) rfl (HL1.out.2.alloc _) rfl (by simp [Value.oneCell']) (by exact heap_alloc_new w1 _) rfl (by omega) (by omega) (by simp; omega) ?_; intro g3 cap3 w3 hown3 hg3 hat3 hlt3; have hb3 : w3.heap[g]? = some (.cells #[.slice (some ⟨b, 0, none⟩) l.length c] 123 (0, 0)) := (hg3.block g (by exact Nat.lt_of_lt_of_le hlg1 (World.grownBy_alloc w1 _ none).size) (fun e => by have := (HL1.out.2.lt g e.symm).1; omega)).trans (((World.grownBy_alloc w1 _ none).block g hlg1 (by simp)).trans HL1.out.1); have d0 := cell_of_row w3 g 0 _ 123 (0, 0) hb3; have e0 := frozen_of_row w3 g 0 _ 123 hb3)
  all_goals go_wp2
  all_goals go_ret2
  all_goals
   have hgr : w1.grownBy w3 (Value.slice (some ⟨b, 0, none⟩) l.length c).ownBlock := grown_trans (grown_trans (grown_drewN ⟨rfl, rfl, rfl, Nat.le_refl _, fun _ _ _ => rfl⟩ _) (World.grownBy_alloc _ _ _)) hg3
   have hst := LogA.stored (e := newE l t k x) HL.out HB1.out (by exact hown3) hgr (by exact hat3.imp id (fun e => by rw [e]; have := HB1.out.size; simp; omega)) 0
   obtain ⟨A', c', _, f1, f2, f3, f4⟩ := hst
   exact ⟨A', c', rfl, f1, f2, f3, f4⟩
end
section
open Go.RowKit
open Go.Lib hiding intOf
def LogOk (l : List Ent) : Prop := (∀ (i : Nat) (e : Ent), l[i]? = some e → e.num = (i : Int) + 1 ∧ Ok e) ∧ ∀ (i : Nat) (e e' : Ent), l[i]? = some e → l[i + 1]? = some e' → e.time ≤ e'.time
theorem LogOk.nil : LogOk [] := ⟨fun i e h => by simp at h, fun i e e' h => by simp at h⟩
theorem LogOk.snoc {l : List Ent} {e : Ent} (h : LogOk l) (hn : e.num = (l.length : Int) + 1) (ho : Ok e) (ht : 0 < l.length → lastT l ≤ e.time) : LogOk (l ++ [e]) := by
 refine ⟨fun i x hx => ?_, fun i x y hx hy => ?_⟩
 ·by_cases hi : i < l.length
  ·rw [List.getElem?_append_left hi] at hx; exact h.1 i x hx
  ·rw [List.getElem?_append_right (by omega)] at hx
   have : i - l.length = 0 := by
    have := (List.getElem?_eq_some_iff.1 hx).1
    simp at this; omega
   rw [this] at hx
   simp at hx
   subst hx
   exact ⟨by rw [hn]; omega, ho⟩
 ·by_cases hi : i + 1 < l.length
  ·rw [List.getElem?_append_left (by omega)] at hx
   rw [List.getElem?_append_left hi] at hy
   exact h.2 i x y hx hy
  ·have hil : i + 1 = l.length := by
    have := (List.getElem?_eq_some_iff.1 hy).1
    simp at this; omega
   rw [List.getElem?_append_left (by omega)] at hx
   rw [List.getElem?_append_right (by omega), hil, Nat.sub_self] at hy
   simp at hy
   subst hy
   have := ht (by omega)
   unfold lastT at this
   rw [show l.length - 1 = i by omega, hx] at this
   exact this
end
section
open Go.RowKit
theorem CloneLg_info : (Tryz.prog.info? 44).map (fun i => (i.zero, i.size, i.bytes)) = some (some (.slice none 0 0), 1, 24) := by kernel_rfl
set_option maxHeartbeats 1000000 in
theorem CloneLg_any (A : Option Addr) (n c : Nat) (row : Nat → List Value) (w : World) (hA : Sl w w.heap.size 1 A n row) (hl : ∀ i, i < n → (row i).length = 1) (h1 : ∀ i, i < n → ∀ u ∈ row i, u.oneCell' = true)
  (hnil : A = none → n = 0) (hn : n ≤ maxLen) (hby : n * 24 ≤ 140737488355328) :
  Calls Tryz.prog 45 #[.slice A n c] w fun e w' => ∃ v, e = .returned v ∧ w'.ownsRow w.heap.size 44 1 v n (flatR row n) ∧ Below w.heap.size w w' := by
 cases A with
 | none =>
  obtain rfl := hnil rfl
  have hk := fun (W : World) => Lib.run_eql_slice_nil (P := Tryz.prog) W 42 44 none 0 c 0 0 Tryz.underlying42
  go_enter Tryz.func45, Tryz.ntmps45
  go_wp2
  go_ret
  exact ⟨_, rfl, World.ownsRow_nil _ _ _ _, Below.refl _ _⟩
 | some ad =>
  have hk := fun (W : World) => Lib.run_eql_slice_nil (P := Tryz.prog) W 42 44 (some ad) n c 0 0 Tryz.underlying42
  obtain ⟨i0, J0, J1, J2, J3⟩ := info_parts CloneLg_info
  have hbn : Below w.heap.size w (w.alloc (.cells #[] 44)) := (Below.refl _ _).alloc (Nat.le_refl _) _
  have hnews := Sl_news (by decide) (hA.below hbn) rfl hl
  have hlen := flatR_len n hl
  have hone : ∀ u ∈ flatR row n, u.oneCell' = true := fun u hu => by
   obtain ⟨i, hi, hu⟩ := flatR_mem hu
   exact h1 i hi u hu
  have HN := Lib.hid hnews
  have HL := Lib.hid hlen
  have HO := Lib.hid hone
  clear hnews hlen hone h1 hl
  go_enter Tryz.func45, Tryz.ntmps45
  go_wp2_with (at_builtin; refine wpList_append_own _ rfl (.tmp 5) (.tmp 6) 42 rfl w.heap.size 44 i0 _ 1 24 Tryz.underlying42 J0 J1 J2 J3 rfl (by decide) (.slice (some ⟨w.heap.size, 0, none⟩) 0 0) 0 [] rfl (World.ownsRow_made w #[] 0 (Nat.le_refl _) (by decide) rfl) ad n c (flatR row n) rfl HL.out HN.out HO.out (by omega) (by omega) (by simp) ?_; intro v' w' hown hg hni)
  go_ret
  refine ⟨_, rfl, ?_, hbn.grown hg hbn.size (fun k hk => by simp [Value.ownBlock] at hk; omega)⟩
  rw [Nat.zero_add, List.nil_append] at hown
  exact hown
end
end Go.Proofs.YtaebebpldkciiaaGreatDoor
