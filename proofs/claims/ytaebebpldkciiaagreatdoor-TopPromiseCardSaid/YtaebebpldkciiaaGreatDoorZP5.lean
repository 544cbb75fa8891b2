/- Package approach: slices.SortFunc of arrivals by their time; TopPromise. -/
import Derived.Test.YtaebebpldkciiaaGreatDoorZP4
import Derived.Test.YtaebebpldkciiaaGreatDoorS16
import Derived.Test.YtaebebpldkciiaaGreatDoorShO
import Derived.Shelf.SlSortCmp.WholeK
import Derived.Shelf.SlSortCmp.NoneTotal
import Derived.Shelf.SlSortCmp.InsertionK
namespace Go.Proofs.YtaebebpldkciiaaGreatDoor
open Go.RowKit Go.Sort
section
variable {α : Type} [Inhabited α] (enc : α → List Value) (k : Nat)
theorem below_sortK (w : World) (blk off m : Nat) (d : Array α) (os : Array Obj) (B : Nat) (hB : B ≤ blk) (hBw : B ≤ w.heap.size) : Below B w (sortWorldK enc k w blk off m d os) := by
 refine ⟨rfl, rfl, rfl, ?_, fun j hj => ?_⟩
 ·show w.heap.size ≤ ((w.heap.modify blk (onCells (putCells id off (flatK enc k d)))) ++ os).size
  simp
 ·show ((w.heap.modify blk (onCells (putCells id off (flatK enc k d)))) ++ os)[j]? = w.heap[j]?
  have h1 : blk ≠ j := by omega
  have h2 : j < w.heap.size := by omega
  rw [Array.getElem?_append_left (by simpa using h2), Array.getElem?_modify, if_neg h1]
variable {enc} {k}
theorem holdsK_own {w : World} {base n c b : Nat} {e : TypeId} {l : List α} (hk : ∀ x, (enc x).length = k) (h0 : 0 < k) (h : w.ownsRow base e k (.slice (some ⟨b, 0, none⟩) n c) n (rowsV enc l)) (hn : l.length = n) : HoldsK enc k w b 0 l.toArray := fun j hj => by
 have hj : j < l.length * k := by simpa using hj
 have h3 : j / k < l.length := (Nat.div_lt_iff_lt_mul h0).2 hj
 have h4 := Nat.mod_lt j h0
 have e1 : j / k * k + j % k = j := Nat.div_add_mod' j k
 have g1 := rowsV_at hk l (j / k) h3 (j % k) h4
 rw [e1] at g1
 rw [Nat.zero_add]
 refine ⟨?_, h.frozenAt j⟩
 rw [h.cellAt j (by subst hn; exact hj), g1, get_flatK _ _ _ j (by simpa using hj), getElem!_pos l.toArray (j / k) (by simpa using h3)]
 simp only [List.getElem_toArray, id]
 rw [List.getElem?_eq_getElem (by rw [hk]; exact h4), getElem!_pos _ _ (by rw [hk]; exact h4)]
theorem Sl_holdsK {w : World} {n b : Nat} {d : Array α} (hk : ∀ x, (enc x).length = k) (h : HoldsK enc k w b 0 d) (hn : d.size = n) (hb : b < w.heap.size) : Sl w w.heap.size k (some ⟨b, 0, none⟩) n (fun i => enc d.toList[i]!) := fun _ => by
 refine ⟨b, 0, rfl, hb, fun i hi j v hj => ?_⟩
 have hjk : j < k := by rw [← hk d.toList[i]!]; exact (List.getElem?_eq_some_iff.1 hj).1
 have hlt : i * k + j < d.size * k := by
  have h2 : (i + 1) * k ≤ d.size * k := Nat.mul_le_mul_right k (by omega)
  rw [Nat.add_mul, Nat.one_mul] at h2
  omega
 have h1 := (h (i * k + j) (by simpa using hlt)).1
 have d1 : (i * k + j) / k = i := by rw [Nat.mul_comm, Nat.mul_add_div (by omega), Nat.div_eq_of_lt hjk, Nat.add_zero]
 have d2 : (i * k + j) % k = j := by rw [Nat.mul_comm, Nat.mul_add_mod, Nat.mod_eq_of_lt hjk]
 rw [get_flatK _ _ _ _ hlt, d1, d2] at h1
 rw [Nat.zero_add] at h1 ⊢
 rw [h1]
 have hi' : i < d.size := by omega
 have hj : (enc d.toList[i]!)[j]? = some v := hj
 rw [getElem!_pos d.toList i (by simpa using hi')] at hj
 simp only [Array.getElem_toList] at hj
 simp only [id]
 rw [getElem!_pos d i hi', getElem!_pos (enc d[i]) j (by rw [hk]; exact hjk)]
 rw [List.getElem?_eq_getElem (by rw [hk]; exact hjk)] at hj
 exact hj
end
def cfV (x y : Va) : Int := x.1.rd - y.1.rd
theorem swoV : SWO (Go.Proofs.ltOf cfV) where
 irrefl := fun x => by unfold Go.Proofs.ltOf cfV; simp
 trans := fun x y z h1 h2 => by unfold Go.Proofs.ltOf cfV at *; simp at *; omega
 ntrans := fun x y z h1 h2 => by unfold Go.Proofs.ltOf cfV at *; simp at *; omega
set_option maxHeartbeats 1000000 in
theorem less_one (x y : Va) (W : World) : Calls Tryz.prog 24 #[.agg (vaV x).toArray, .agg (vaV y).toArray] W fun e w' => e = .returned (.int .i64 (cfV x y)) ∧ ∃ q os', w' = Go.Sort.grow (W.drewN q) os' := by
 have hx := x.2
 have hy := y.2
 unfold It.ok at hx hy
 have hw : IntKind.i64.wrap (x.1.rd - y.1.rd) = x.1.rd - y.1.rd := IntWalk.i64_in _ (by omega)
 obtain ⟨⟨x1, x2, x3, x4⟩, hX⟩ := x
 obtain ⟨⟨y1, y2, y3, y4⟩, hY⟩ := y
 dsimp only at hw
 show Calls Tryz.prog 24 #[.agg #[.string x1, .int .i64 x2, .int .i64 x3, .int .i64 x4], .agg #[.string y1, .int .i64 y2, .int .i64 y3, .int .i64 y4]] W fun e w' => e = .returned (.int .i64 (x3 - y3)) ∧ _
 clear hX hY hx hy
 go_enter Tryz.func24, Tryz.ntmps24
 go_wp2
 go_ret
 exact ⟨rfl, 0, _, by rw [alloc_eq_grow, alloc_eq_grow, grow_grow]; rfl⟩
theorem cmpV (blk off size : Nat) (w : World) : Go.Proofs.CmpLays Tryz.prog 24 #[] vaV 4 cfV blk off size w := fun _ _ _ _ x y => less_one x y _
theorem eg21 : ∀ (args : Array Value) (w : World), (callFunc 24 args).run Tryz.prog w = .ok (.enter 24 args) w := enters_of Tryz.func24 (by kernel_rfl) rfl
def SortedP (l : List Va) (b n : Nat) (w : World) (e : Ending) (w' : World) : Prop :=
 e = .returned (.tuple #[]) ∧ (∃ s : List Va, s.Perm l ∧ (∀ i j, i < j → j < s.length → (vi s i).rd ≤ (vi s j).rd) ∧ Sl w' w'.heap.size 4 (some ⟨b, 0, none⟩) n (fun i => (vi s i).row)) ∧ ∀ B, B ≤ b → B ≤ w.heap.size → Go.RowKit.Below B w w'
theorem SortIt_any (b c n base : Nat) (l : List Va) (w : World) (h : w.ownsRow base 68 4 (.slice (some ⟨b, 0, none⟩) n c) n (rowsV vaV l)) (hn : l.length = n) (hN : n ≤ 1000) :
  Calls Tryz.prog 23 #[.slice (some ⟨b, 0, none⟩) n c, .func (.func 24) #[] #[]] w (SortedP l b n w) := by
 have hH := holdsK_own vaV_len (by decide) h hn
 have hlt := (h.lt b rfl).2
 have hsz : l.toArray.size = n := by simpa using hn
 have hcon := AnyQ.slices_SortFunc Tryz.l23 4 Tryz.isAgg68 Tryz.sizeOf68 vaV vaV_len vaV_one cfV swoV 24 #[] b 0 c l.toArray w eg21 (cmpV _ _ _ _) hH hlt (by omega)
 change Calls Tryz.prog 23 _ _ _ at hcon
 rw [hsz] at hcon
 refine hcon.mono ?_
 rintro e w' ⟨rfl, d, m, os, hp, hs, rfl⟩
 have e2 : ∀ (X : Array Va) (n : Nat), X.size = n → X.extract 0 n = X := fun X n h => by subst h; simp
 have hds : d.size = n := hp.1.trans hsz
 have hpm := hp.2.2
 rw [e2 _ _ hds, e2 _ _ hsz] at hpm
 refine ⟨rfl, ⟨d.toList, by simpa using hpm, fun i j hij hj => ?_, ?_⟩, fun B h1 h2 => below_sortK vaV 4 w b 0 m _ os B h1 h2⟩
 ·have hj' : j < n := by rw [← hds]; simpa using hj
  have := hs i j (Nat.zero_le _) hij hj'
  unfold Go.Proofs.ltOf cfV at this
  simp only [decide_eq_false_iff_not] at this
  unfold vi
  rw [getElem!_pos d.toList i (by simp; omega), getElem!_pos d.toList j (by simp; omega)]
  rw [getElem!_pos d i (by omega), getElem!_pos d j (by omega)] at this
  simp only [Array.getElem_toList]
  omega
 ·exact Sl_holdsK vaV_len (holdsK_sortWorldK_c vaV 4 w b 0 l.toArray _ m os hH hlt (by rw [hds, hsz])) hds (Nat.lt_of_lt_of_le hlt (size_sortWorldK_c vaV 4 w b 0 m _ os))
theorem SortIt_none (A : Option Addr) (c : Nat) (w : World) : Calls Tryz.prog 23 #[.slice A 0 c, .func (.func 24) #[] #[]] w fun e w' => e = .returned (.tuple #[]) ∧ w' = w := by
 have hcon := AnyF.slices_SortFunc_none Tryz.l23 A c (.func (.func 24) #[] #[]) w
 change Calls Tryz.prog 23 _ _ _ at hcon
 exact hcon
theorem SortIt_all (A : Option Addr) (c n base : Nat) (l : List Va) (w : World) (h : w.ownsRow base 68 4 (.slice A n c) n (rowsV vaV l)) (hn : l.length = n) (hN : n ≤ 1000) (hb : base ≤ w.heap.size) :
  Calls Tryz.prog 23 #[.slice A n c, .func (.func 24) #[] #[]] w fun e w' => e = .returned (.tuple #[]) ∧ (∃ s : List Va, s.Perm l ∧ (∀ i j, i < j → j < s.length → (vi s i).rd ≤ (vi s j).rd) ∧ Sl w' w'.heap.size 4 A n (fun i => (vi s i).row)) ∧ Below base w w' := by
 by_cases h0 : n = 0
 ·subst h0
  have hl : l = [] := List.eq_nil_of_length_eq_zero hn
  subst hl
  refine (SortIt_none A c w).mono ?_
  rintro e w' ⟨rfl, rfl⟩
  exact ⟨rfl, ⟨[], List.Perm.refl _, fun i j _ hj => absurd hj (by simp), fun hh => absurd hh (by omega)⟩, Below.refl _ _⟩
 obtain ⟨b, cap, hv, _, _⟩ := h.form (by omega)
 have hA : A = some ⟨b, 0, none⟩ := by injection hv
 subst hA
 refine (SortIt_any b c n base l w h hn hN).mono ?_
 rintro e w' ⟨rfl, hs, hbl⟩
 exact ⟨rfl, hs, hbl base (h.lt b rfl).1 hb⟩
theorem TopPromise_all (S : Su) (l : List Inp) (hs : List Hd) (n : Nat) (A : Option Addr) (cA : Nat) (w : World) (hW : SeaW w) (hI : InsA w.heap.size A n l hs w) (hcap : n ≤ cA ∧ cA ≤ maxLen) (hnil : A = none → n = 0 ∧ cA = 0) :
  Calls Tryz.prog 8 #[suA S, .slice A n cA] w fun e w' => e = .returned (.bool true) ∧ Below w.heap.size w w' :=
 TopPromise_any S l hs n A cA w hW.ks hW.pos hI hcap hnil (fun W hb => fact10_any W (hW.below hb)) SortIt_all
end Go.Proofs.YtaebebpldkciiaaGreatDoor
