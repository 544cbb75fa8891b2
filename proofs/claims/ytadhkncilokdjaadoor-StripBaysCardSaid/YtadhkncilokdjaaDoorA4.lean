/- Package strip: slices.SortFunc of strips. -/
import Derived.Test.YtadhkncilokdjaaDoorA3
import Derived.Test.YtadhkncilokdjaaDoorShS
import Derived.Shelf.SlSortCmp.NoneTotal
namespace Go.Proofs.YtadhkncilokdjaaDoor
open Go.RowKit Go.Sort

section
variable {α : Type} [Inhabited α] (enc : α → List Value) (k : Nat)
theorem below_sortK (w : World) (blk off m : Nat) (d : Array α) (os : Array Obj) (B : Nat) (hB : B ≤ blk) (hBw : B ≤ w.heap.size) : Below B w (sortWorldK enc k w blk off m d os) := by
  refine ⟨rfl, rfl, rfl, ?_, fun j hj => ?_⟩
  · show w.heap.size ≤ ((w.heap.modify blk (onCells (putCells id off (flatK enc k d)))) ++ os).size
    simp
  · show ((w.heap.modify blk (onCells (putCells id off (flatK enc k d)))) ++ os)[j]? = w.heap[j]?
    have h1 : blk ≠ j := by omega
    have h2 : j < w.heap.size := by omega
    rw [Array.getElem?_append_left (by simpa using h2), Array.getElem?_modify, if_neg h1]
variable {enc} {k}
theorem holdsK_own {w : World} {base n c b : Nat} {e : TypeId} {l : List α} (hk : ∀ x, (enc x).length = k) (h0 : 0 < k) (h : w.ownsRow base e k (.slice (some ⟨b, 0, none⟩) n c) n (rowsV enc l)) (hn : l.length = n) : HoldsK enc k w b 0 l.toArray := fun j hj => by
  have hj : j < l.length * k := by simpa using hj
  have h3 : j / k < l.length := (Nat.div_lt_iff_lt_mul h0).2 hj
  have h4 := Nat.mod_lt j h0
  have e1 : j / k * k + j % k = j := Nat.div_add_mod' j k
  have g1 := rowsV_at hk l (j / k) h3 (j % k) h4
  rw [e1] at g1
  rw [Nat.zero_add]
  refine ⟨?_, h.frozenAt j⟩
  rw [h.cellAt j (by subst hn; exact hj), g1, get_flatK _ _ _ j (by simpa using hj), getElem!_pos l.toArray (j / k) (by simpa using h3)]
  simp only [List.getElem_toArray, id]
  rw [List.getElem?_eq_getElem (by rw [hk]; exact h4), getElem!_pos _ _ (by rw [hk]; exact h4)]
theorem Sl_holdsK {w : World} {n b : Nat} {d : Array α} (hk : ∀ x, (enc x).length = k) (h : HoldsK enc k w b 0 d) (hn : d.size = n) (hb : b < w.heap.size) : Sl w w.heap.size k (some ⟨b, 0, none⟩) n (fun i => enc d.toList[i]!) := fun _ => by
  refine ⟨b, 0, rfl, hb, fun i hi j v hj => ?_⟩
  have hjk : j < k := by rw [← hk d.toList[i]!]; exact (List.getElem?_eq_some_iff.1 hj).1
  have hlt : i * k + j < d.size * k := by
    have h2 : (i + 1) * k ≤ d.size * k := Nat.mul_le_mul_right k (by omega)
    rw [Nat.add_mul, Nat.one_mul] at h2
    omega
  have h1 := (h (i * k + j) (by simpa using hlt)).1
  have d1 : (i * k + j) / k = i := by rw [Nat.mul_comm, Nat.mul_add_div (by omega), Nat.div_eq_of_lt hjk, Nat.add_zero]
  have d2 : (i * k + j) % k = j := by rw [Nat.mul_comm, Nat.mul_add_mod, Nat.mod_eq_of_lt hjk]
  rw [get_flatK _ _ _ _ hlt, d1, d2] at h1
  rw [Nat.zero_add] at h1 ⊢
  rw [h1]
  have hi' : i < d.size := by omega
  have hj : (enc d.toList[i]!)[j]? = some v := hj
  rw [getElem!_pos d.toList i (by simpa using hi')] at hj
  simp only [Array.getElem_toList] at hj
  simp only [id]
  rw [getElem!_pos d i hi', getElem!_pos (enc d[i]) j (by rw [hk]; exact hjk)]
  rw [List.getElem?_eq_getElem (by rw [hk]; exact hjk)] at hj
  exact hj
end

theorem swoS : SWO (Go.Proofs.ltOf cfS) where
  irrefl := fun x => by
    unfold Go.Proofs.ltOf
    rw [decide_eq_false_iff_not, cfS_lt, lsS_irr]
    simp
  trans := fun x y z h1 h2 => by
    unfold Go.Proofs.ltOf at *
    rw [decide_eq_true_eq, cfS_lt] at *
    rcases h1 with h1 | ⟨h1, h1'⟩ <;> rcases h2 with h2 | ⟨h2, h2'⟩
    · exact .inl (by omega)
    · exact .inl (by omega)
    · exact .inl (by omega)
    · exact .inr ⟨by omega, lsS_tr h1' h2'⟩
  ntrans := fun x y z h1 h2 => by
    unfold Go.Proofs.ltOf at *
    rw [decide_eq_false_iff_not, cfS_lt] at *
    intro h3
    rcases h3 with h3 | ⟨h3, h3'⟩
    · by_cases e : x.1.t < y.1.t
      · exact h1 (.inl e)
      · by_cases e2 : y.1.t < z.1.t
        · exact h2 (.inl e2)
        · omega
    · have t1 : ¬ x.1.t < y.1.t := fun e => h1 (.inl e)
      have t2 : ¬ y.1.t < z.1.t := fun e => h2 (.inl e)
      have e1 : x.1.t = y.1.t := by omega
      have e2 : y.1.t = z.1.t := by omega
      have n1 : lsS x.1.c y.1.c = false := by rw [Bool.eq_false_iff]; exact fun e => h1 (.inr ⟨e1, e⟩)
      have n2 : lsS y.1.c z.1.c = false := by rw [Bool.eq_false_iff]; exact fun e => h2 (.inr ⟨e2, e⟩)
      cases e : lsS y.1.c x.1.c with
      | true =>
        have := lsS_tr e h3'
        rw [n2] at this; cases this
      | false =>
        have := lsS_anti n1 e
        rw [this, n2] at h3'; cases h3'
theorem cmpS' (blk off size : Nat) (w : World) : Go.Proofs.CmpLays Tryd.prog 23 #[] vaV 5 cfS blk off size w := fun _ _ _ _ x y => less_one x y _
theorem eg23 : ∀ (args : Array Value) (w : World), (callFunc 23 args).run Tryd.prog w = .ok (.enter 23 args) w := enters_of Tryd.func23 (by kernel_rfl) rfl

/-- A row that is sorted. -/
def SortedP (l : List Va) (A : Option Addr) (base n : Nat) (w : World) (e : Ending) (w' : World) : Prop :=
  e = .returned (.tuple #[]) ∧ (∃ s : List Va, s.Perm l ∧ (∀ i j, i < j → j < s.length → 0 ≤ cfS s[j]! s[i]!) ∧ Sl w' w'.heap.size 5 A n (fun i => vaV s[i]!)) ∧ (base ≤ w.heap.size → Below base w w')

theorem SortS_any (A : Option Addr) (c n base : Nat) (l : List Va) (w : World) (h : w.ownsRow base 24 5 (.slice A n c) n (rowsV vaV l)) (hn : l.length = n) (hN : n ≤ 1000) :
    Calls Tryd.prog 22 #[.slice A n c, .func (.func 23) #[] #[]] w (SortedP l A base n w) := by
  by_cases h0 : n = 0
  · subst h0
    have hl : l = [] := List.eq_nil_of_length_eq_zero hn
    subst hl
    have hcon := AnyF.slices_SortFunc_none Tryd.l22 A c (.func (.func 23) #[] #[]) w
    change Calls Tryd.prog 22 _ _ _ at hcon
    refine hcon.mono ?_
    rintro e w' ⟨he, hw⟩
    refine ⟨he, ⟨[], List.Perm.refl _, fun i j _ hj => by simp at hj, fun h => absurd h (by omega)⟩, fun hb => ?_⟩
    rw [hw]
    exact Below.refl _ _
  obtain ⟨b, cap, hv, hb, hbl⟩ := h.form (by omega)
  have hA : A = some ⟨b, 0, none⟩ := by injection hv
  subst hA
  have hH := holdsK_own vaV_len (by decide) h hn
  have hlt := (h.lt b rfl).2
  have hsz : l.toArray.size = n := by simpa using hn
  have hcon := AnyQ.slices_SortFunc Tryd.l22 5 Tryd.isAgg24 Tryd.sizeOf24 vaV vaV_len vaV_one cfS swoS 23 #[] b 0 c l.toArray w eg23 (cmpS' _ _ _ _) hH hlt (by omega)
  change Calls Tryd.prog 22 _ _ _ at hcon
  rw [hsz] at hcon
  refine hcon.mono ?_
  rintro e w' ⟨rfl, d, m, os, hp, hs, rfl⟩
  have e2 : ∀ (X : Array Va) (n : Nat), X.size = n → X.extract 0 n = X := fun X n h => by subst h; simp
  have hds : d.size = n := hp.1.trans hsz
  have hpm := hp.2.2
  rw [e2 _ _ hds, e2 _ _ hsz] at hpm
  refine ⟨rfl, ⟨d.toList, by simpa using hpm, fun i j hij hj => ?_, ?_⟩, fun h2 => below_sortK vaV 5 w b 0 m _ os base hb h2⟩
  · have hj' : j < n := by rw [← hds]; simpa using hj
    have := hs i j (Nat.zero_le _) hij hj'
    unfold Go.Proofs.ltOf at this
    simp only [decide_eq_false_iff_not] at this
    rw [getElem!_pos d.toList i (by simp; omega), getElem!_pos d.toList j (by simp; omega)]
    rw [getElem!_pos d i (by omega), getElem!_pos d j (by omega)] at this
    simp only [Array.getElem_toList]
    omega
  · exact Sl_holdsK vaV_len (holdsK_sortWorldK_c vaV 5 w b 0 l.toArray _ m os hH hlt (by rw [hds, hsz])) hds (Nat.lt_of_lt_of_le hlt (size_sortWorldK_c vaV 5 w b 0 m _ os))
end Go.Proofs.YtadhkncilokdjaaDoor
