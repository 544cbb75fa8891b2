/- slices.SortFunc of alerts. -/
import Derived.Test.YtdmecagdjbjgjaaR18
import Derived.Test.YtdmecagdjbjgjaaR21
import Derived.Test.YtdmecagdjbjgjaaShS
import Derived.Shelf.SlSortCmp.NoneTotal
namespace Go.Proofs.Ytdmecagdjbjgjaa
open Go.RowKit Go.Sort

section
variable {α : Type} [Inhabited α] (enc : α → List Value) (k : Nat)
theorem below_sortK (w : World) (blk off m : Nat) (d : Array α) (os : Array Obj) (B : Nat) (hB : B ≤ blk) (hBw : B ≤ w.heap.size) : Below B w (sortWorldK enc k w blk off m d os) := by
  refine ⟨rfl, rfl, rfl, ?_, fun j hj => ?_⟩
  · show w.heap.size ≤ ((w.heap.modify blk (onCells (putCells id off (flatK enc k d)))) ++ os).size
    simp
  · show ((w.heap.modify blk (onCells (putCells id off (flatK enc k d)))) ++ os)[j]? = w.heap[j]?
    have h1 : blk ≠ j := by omega
    have h2 : j < w.heap.size := by omega
    rw [Array.getElem?_append_left (by simpa using h2), Array.getElem?_modify, if_neg h1]
variable {enc} {k}
theorem holdsK_own {w : World} {base n c b : Nat} {e : TypeId} {l : List α} (hk : ∀ x, (enc x).length = k) (h0 : 0 < k) (h : w.ownsRow base e k (.slice (some ⟨b, 0, none⟩) n c) n (rowsV enc l)) (hn : l.length = n) : HoldsK enc k w b 0 l.toArray := fun j hj => by
  have hj : j < l.length * k := by simpa using hj
  have h3 : j / k < l.length := (Nat.div_lt_iff_lt_mul h0).2 hj
  have h4 := Nat.mod_lt j h0
  have e1 : j / k * k + j % k = j := Nat.div_add_mod' j k
  have g1 := rowsV_at hk l (j / k) h3 (j % k) h4
  rw [e1] at g1
  rw [Nat.zero_add]
  refine ⟨?_, h.frozenAt j⟩
  rw [h.cellAt j (by subst hn; exact hj), g1, get_flatK _ _ _ j (by simpa using hj), getElem!_pos l.toArray (j / k) (by simpa using h3)]
  simp only [List.getElem_toArray, id]
  rw [List.getElem?_eq_getElem (by rw [hk]; exact h4), getElem!_pos _ _ (by rw [hk]; exact h4)]

theorem own_sortK {w : World} {base n cap b m : Nat} {e : TypeId} {l : List α} {d : Array α} {os : Array Obj} (hk : ∀ x, (enc x).length = k) (h0 : 0 < k) (h : w.ownsRow base e k (.slice (some ⟨b, 0, none⟩) n cap) n (rowsV enc l)) (_hn : l.length = n) (hd : d.size = n)
    (hH : HoldsK enc k (sortWorldK enc k w b 0 m d os) b 0 d) : (sortWorldK enc k w b 0 m d os).ownsRow base e k (.slice (some ⟨b, 0, none⟩) n cap) n (rowsV enc d.toList) := by
  obtain ⟨cur, hg, hb, hnc, hcm, hcs, htake⟩ := own_cur h
  have hbl : b < w.heap.size := (Array.getElem?_eq_some_iff.1 hg).1
  have hW : (sortWorldK enc k w b 0 m d os).heap[b]? = some (.cells (putCells id 0 (flatK enc k d) cur) e (0, 0)) := by
    show ((w.heap.modify b (onCells (putCells id 0 (flatK enc k d)))) ++ os)[b]? = _
    rw [Array.getElem?_append_left (by simpa using hbl), Array.getElem?_modify, if_pos rfl, hg]
    rfl
  have hsz : (putCells id 0 (flatK enc k d) cur).size = cap * k := by unfold putCells; simp [hcs]
  have hnk : n * k ≤ cap * k := Nat.mul_le_mul_right k hnc
  refine ⟨by rw [rowsV_len hk, Array.length_toList, hd], .inr ⟨b, cap, _, rfl, hb, hW, hnc, hcm, hsz, ?_⟩⟩
  apply List.ext_getElem?
  intro p
  rw [List.getElem?_take]
  by_cases hp : p < n * k
  · rw [if_pos hp, Array.getElem?_toList]
    have h3 : p / k < d.toList.length := by rw [Array.length_toList, hd]; exact (Nat.div_lt_iff_lt_mul h0).2 hp
    have h4 := Nat.mod_lt p h0
    have e1 : p / k * k + p % k = p := Nat.div_add_mod' p k
    have g1 := rowsV_at hk d.toList (p / k) h3 (p % k) h4
    rw [e1] at g1
    have h5 := (hH p (by simpa [hd] using hp)).1
    rw [Nat.zero_add, cell_of_row _ _ _ _ _ (0, 0) hW, get_flatK _ _ _ p (by rw [hd]; exact hp)] at h5
    rw [h5, g1, getElem!_pos d (p / k) (by simpa using h3)]
    simp only [id, Array.getElem_toList]
    rw [List.getElem?_eq_getElem (by rw [hk]; exact h4), getElem!_pos _ _ (by rw [hk]; exact h4)]
  · rw [if_neg hp, List.getElem?_eq_none (by rw [rowsV_len hk, Array.length_toList, hd]; omega)]
end

theorem swoA : SWO (Go.Proofs.ltOf cfA) where
  irrefl := fun x => by
    unfold Go.Proofs.ltOf
    rw [decide_eq_false_iff_not, cfA_lt, lsS_irr]
    simp
  trans := fun x y z h1 h2 => by
    unfold Go.Proofs.ltOf at *
    rw [decide_eq_true_eq, cfA_lt] at *
    rcases h1 with h1 | ⟨h1, h1 | ⟨h1a, h1 | ⟨h1b, h1⟩⟩⟩ <;> rcases h2 with h2 | ⟨h2, h2 | ⟨h2a, h2 | ⟨h2b, h2⟩⟩⟩
    all_goals first
      | (left; omega)
      | (right; refine ⟨by omega, ?_⟩; first | (left; omega) | (right; refine ⟨by omega, ?_⟩; first | (left; omega) | (right; exact ⟨by omega, lsS_tr h1 h2⟩)))
  ntrans := fun x y z h1 h2 => by
    unfold Go.Proofs.ltOf at *
    rw [decide_eq_false_iff_not, cfA_lt] at *
    intro h3
    by_cases e1 : x.l = y.l
    · by_cases e2 : y.l = z.l
      · by_cases f1 : x.a = y.a
        · by_cases f2 : y.a = z.a
          · by_cases k1 : x.b = y.b
            · by_cases k2 : y.b = z.b
              · have n1 : lsS x.r y.r = false := by rw [Bool.eq_false_iff]; exact fun e => h1 (.inr ⟨e1, .inr ⟨f1, .inr ⟨k1, e⟩⟩⟩)
                have n2 : lsS y.r z.r = false := by rw [Bool.eq_false_iff]; exact fun e => h2 (.inr ⟨e2, .inr ⟨f2, .inr ⟨k2, e⟩⟩⟩)
                have h3' : lsS x.r z.r = true := by
                  rcases h3 with h3 | ⟨_, h3 | ⟨_, h3 | ⟨_, h3⟩⟩⟩
                  · omega
                  · omega
                  · omega
                  · exact h3
                cases e : lsS y.r x.r with
                | true =>
                  have := lsS_tr e h3'
                  rw [n2] at this; cases this
                | false =>
                  have := lsS_anti n1 e
                  rw [this, n2] at h3'; cases h3'
              · have q1 : ¬ y.b < z.b := fun e => h2 (.inr ⟨e2, .inr ⟨f2, .inl e⟩⟩)
                rcases h3 with h3 | ⟨_, h3 | ⟨_, h3 | ⟨h3, _⟩⟩⟩ <;> omega
            · have q1 : ¬ x.b < y.b := fun e => h1 (.inr ⟨e1, .inr ⟨f1, .inl e⟩⟩)
              have q2 : ¬ y.b < z.b := fun e => h2 (.inr ⟨e2, .inr ⟨f2, .inl e⟩⟩)
              rcases h3 with h3 | ⟨_, h3 | ⟨_, h3 | ⟨h3, _⟩⟩⟩ <;> omega
          · have q1 : ¬ y.a < z.a := fun e => h2 (.inr ⟨e2, .inl e⟩)
            rcases h3 with h3 | ⟨_, h3 | ⟨h3, _⟩⟩ <;> omega
        · have q1 : ¬ x.a < y.a := fun e => h1 (.inr ⟨e1, .inl e⟩)
          have q2 : ¬ y.a < z.a := fun e => h2 (.inr ⟨e2, .inl e⟩)
          rcases h3 with h3 | ⟨_, h3 | ⟨h3, _⟩⟩ <;> omega
      · have q1 : ¬ z.l < y.l := fun e => h2 (.inl e)
        rcases h3 with h3 | ⟨h3, _⟩ <;> omega
    · have q1 : ¬ y.l < x.l := fun e => h1 (.inl e)
      have q2 : ¬ z.l < y.l := fun e => h2 (.inl e)
      rcases h3 with h3 | ⟨h3, _⟩ <;> omega

theorem cmpA (blk off size : Nat) (w : World) : Go.Proofs.CmpLays Try.prog 34 #[] alL 4 cfA blk off size w := fun _ _ _ _ x y => less_one x y _
theorem eg34 : ∀ (args : Array Value) (w : World), (callFunc 34 args).run Try.prog w = .ok (.enter 34 args) w := enters_of Try.func34 (by kernel_rfl) rfl

def SortP (l : List Al) (A : Option Addr) (base n c : Nat) (w : World) (e : Ending) (w' : World) : Prop :=
  e = .returned (.tuple #[]) ∧ (∃ s : List Al, s.Perm l ∧ (∀ i j, i < j → j < s.length → 0 ≤ cfA s[j]! s[i]!) ∧ w'.ownsRow base 51 4 (.slice A n c) n (rowsV alL s)) ∧ (base ≤ w.heap.size → Below base w w')

theorem SortA_any (A : Option Addr) (c n base : Nat) (l : List Al) (w : World) (h : w.ownsRow base 51 4 (.slice A n c) n (rowsV alL l)) (hn : l.length = n) (hN : n ≤ 100000) :
    Calls Try.prog 33 #[.slice A n c, .func (.func 34) #[] #[]] w (SortP l A base n c w) := by
  by_cases h0 : n = 0
  · subst h0
    have hl : l = [] := List.eq_nil_of_length_eq_zero hn
    subst hl
    have hcon := AnyF.slices_SortFunc_none Try.l33 A c (.func (.func 34) #[] #[]) w
    change Calls Try.prog 33 _ _ _ at hcon
    refine hcon.mono ?_
    rintro e w' ⟨he, hw⟩
    refine ⟨he, ⟨[], List.Perm.refl _, fun i j _ hj => by simp at hj, by rw [hw]; exact h⟩, fun hb => ?_⟩
    rw [hw]
    exact Below.refl _ _
  obtain ⟨b, cap, hv, hb, hbl⟩ := h.form (by omega)
  have hA : A = some ⟨b, 0, none⟩ := by injection hv
  subst hA
  have hH := holdsK_own alL_len (by decide) h hn
  have hlt := (h.lt b rfl).2
  have hsz : l.toArray.size = n := by simpa using hn
  have hcon := AnyQ.slices_SortFunc Try.l33 4 Try.isAgg51 Try.sizeOf51 alL alL_len alL_one cfA swoA 34 #[] b 0 c l.toArray w eg34 (cmpA _ _ _ _) hH hlt (by omega)
  change Calls Try.prog 33 _ _ _ at hcon
  rw [hsz] at hcon
  refine hcon.mono ?_
  rintro e w' ⟨rfl, d, m, os, hp, hs, rfl⟩
  have e2 : ∀ (X : Array Al) (n : Nat), X.size = n → X.extract 0 n = X := fun X n h => by subst h; simp
  have hds : d.size = n := hp.1.trans hsz
  have hpm := hp.2.2
  rw [e2 _ _ hds, e2 _ _ hsz] at hpm
  refine ⟨rfl, ⟨d.toList, by simpa using hpm, fun i j hij hj => ?_, ?_⟩, fun h2 => below_sortK alL 4 w b 0 m _ os base hb h2⟩
  · have hj' : j < n := by rw [← hds]; simpa using hj
    have := hs i j (Nat.zero_le _) hij hj'
    unfold Go.Proofs.ltOf at this
    simp only [decide_eq_false_iff_not] at this
    rw [getElem!_pos d.toList i (by simp; omega), getElem!_pos d.toList j (by simp; omega)]
    rw [getElem!_pos d i (by omega), getElem!_pos d j (by omega)] at this
    simp only [Array.getElem_toList]
    omega
  · exact own_sortK alL_len (by decide) h hn hds (holdsK_sortWorldK_c alL 4 w b 0 l.toArray _ m os hH hlt (by rw [hds, hsz]))
end Go.Proofs.Ytdmecagdjbjgjaa
