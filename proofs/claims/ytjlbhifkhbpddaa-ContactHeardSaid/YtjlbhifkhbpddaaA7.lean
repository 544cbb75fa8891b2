/- Package contact: sorting what is lost; Lost. -/
import Derived.Test.YtjlbhifkhbpddaaA5
import Derived.Test.YtjlbhifkhbpddaaA6
import Derived.Shelf.SlSortCmp.InsertionK
namespace Go.Proofs.Ytjlbhifkhbpddaa
open Go.RowKit Go.Sort

section
variable {α : Type} [Inhabited α] (lt : α → α → Bool)
theorem insInner_perm (a b : Nat) : ∀ (j : Nat) (d : Array α), j < b → b ≤ d.size → PermIn a b d (insInner lt a j d)
  | 0, d, _, _ => by
    unfold insInner
    exact permIn_refl d a b
  | j + 1, d, hj, hb => by
    unfold insInner
    split
    · rename_i hc
      simp only [Bool.and_eq_true, decide_eq_true_eq] at hc
      exact permIn_trans _ _ _ a b (swp_permIn d a b (j + 1) j (by omega) (by omega) (by omega) (by omega) hb) (insInner_perm a b j (swp d (j + 1) j) (by omega) (by rw [swp_size]; exact hb))
    · exact permIn_refl d a b
theorem insOuter_perm (a b : Nat) : ∀ (n i : Nat) (d : Array α), b - i = n → i ≤ b → b ≤ d.size → PermIn a b d (insOuter lt a b i d)
  | 0, i, d, hn, hib, _ => by
    obtain rfl : i = b := by omega
    rw [insOuter, if_neg (by omega)]
    exact permIn_refl d a i
  | n + 1, i, d, hn, hib, hb => by
    have hlt : i < b := by omega
    rw [insOuter, if_pos hlt]
    have h1 := insInner_perm lt a b i d hlt hb
    exact permIn_trans _ _ _ a b h1 (insOuter_perm a b n (i + 1) (insInner lt a i d) (by omega) (by omega) (by rw [h1.1]; exact hb))
theorem insertion_perm (d : Array α) : (insertionSort lt d 0 d.size).toList.Perm d.toList ∧ (insertionSort lt d 0 d.size).size = d.size := by
  unfold insertionSort
  by_cases h : 0 = d.size
  · rw [insOuter, if_neg (by omega)]
    exact ⟨List.Perm.refl _, rfl⟩
  · have := insOuter_perm lt 0 d.size (d.size - (0 + 1)) (0 + 1) d rfl (by omega) (Nat.le_refl _)
    refine ⟨?_, this.1⟩
    have h2 := this.2.2
    have e2 : ∀ (X : Array α) (n : Nat), X.size = n → X.extract 0 n = X := fun X n h => by subst h; simp
    rw [e2 _ _ this.1, e2 _ _ rfl] at h2
    exact h2
end

section
variable {α : Type} [Inhabited α] (enc : α → List Value) (k : Nat)
theorem below_sortK (w : World) (blk off m : Nat) (d : Array α) (os : Array Obj) (B : Nat) (hB : B ≤ blk) (hBw : B ≤ w.heap.size) : Below B w (sortWorldK enc k w blk off m d os) := by
  refine ⟨rfl, rfl, rfl, ?_, fun j hj => ?_⟩
  · show w.heap.size ≤ ((w.heap.modify blk (onCells (putCells id off (flatK enc k d)))) ++ os).size
    simp
  · show ((w.heap.modify blk (onCells (putCells id off (flatK enc k d)))) ++ os)[j]? = w.heap[j]?
    have h1 : blk ≠ j := by omega
    have h2 : j < w.heap.size := by omega
    rw [Array.getElem?_append_left (by simpa using h2), Array.getElem?_modify, if_neg h1]
variable {enc} {k}
theorem holdsK_own {w : World} {base n c b : Nat} {e : TypeId} {l : List α} (hk : ∀ x, (enc x).length = k) (h0 : 0 < k) (h : w.ownsRow base e k (.slice (some ⟨b, 0, none⟩) n c) n (rowsV enc l)) (hn : l.length = n) : HoldsK enc k w b 0 l.toArray := fun j hj => by
  have hj : j < l.length * k := by simpa using hj
  have h3 : j / k < l.length := (Nat.div_lt_iff_lt_mul h0).2 hj
  have h4 := Nat.mod_lt j h0
  have e1 : j / k * k + j % k = j := Nat.div_add_mod' j k
  have g1 := rowsV_at hk l (j / k) h3 (j % k) h4
  rw [e1] at g1
  rw [Nat.zero_add]
  refine ⟨?_, h.frozenAt j⟩
  rw [h.cellAt j (by subst hn; exact hj), g1, get_flatK _ _ _ j (by simpa using hj), getElem!_pos l.toArray (j / k) (by simpa using h3)]
  simp only [List.getElem_toArray, id]
  rw [List.getElem?_eq_getElem (by rw [hk]; exact h4), getElem!_pos _ _ (by rw [hk]; exact h4)]
theorem Sl_holdsK {w : World} {n b : Nat} {d : Array α} (hk : ∀ x, (enc x).length = k) (h : HoldsK enc k w b 0 d) (hn : d.size = n) (hb : b < w.heap.size) : Sl w w.heap.size k (some ⟨b, 0, none⟩) n (fun i => enc d.toList[i]!) := fun _ => by
  refine ⟨b, 0, rfl, hb, fun i hi j v hj => ?_⟩
  have hjk : j < k := by rw [← hk d.toList[i]!]; exact (List.getElem?_eq_some_iff.1 hj).1
  have hlt : i * k + j < d.size * k := by
    have h2 : (i + 1) * k ≤ d.size * k := Nat.mul_le_mul_right k (by omega)
    rw [Nat.add_mul, Nat.one_mul] at h2
    omega
  have h1 := (h (i * k + j) (by simpa using hlt)).1
  have d1 : (i * k + j) / k = i := by rw [Nat.mul_comm, Nat.mul_add_div (by omega), Nat.div_eq_of_lt hjk, Nat.add_zero]
  have d2 : (i * k + j) % k = j := by rw [Nat.mul_comm, Nat.mul_add_mod, Nat.mod_eq_of_lt hjk]
  rw [get_flatK _ _ _ _ hlt, d1, d2] at h1
  rw [Nat.zero_add] at h1 ⊢
  rw [h1]
  have hi' : i < d.size := by omega
  have hj : (enc d.toList[i]!)[j]? = some v := hj
  rw [getElem!_pos d.toList i (by simpa using hi')] at hj
  simp only [Array.getElem_toList] at hj
  simp only [id]
  rw [getElem!_pos d i hi', getElem!_pos (enc d[i]) j (by rw [hk]; exact hjk)]
  rw [List.getElem?_eq_getElem (by rw [hk]; exact hjk)] at hj
  exact hj
end

def cfL (x y : Cs) : Int := wrap64 (x.2.2 - y.2.2)
set_option maxHeartbeats 1000000 in
theorem less_one (x y : Cs) (W : World) : Calls Try.prog 23 #[.agg #[.string x.1, .int .i64 x.2.1, .int .i64 x.2.2], .agg #[.string y.1, .int .i64 y.2.1, .int .i64 y.2.2]] W fun e w' => e = .returned (.int .i64 (cfL x y)) ∧ ∃ q os', w' = grow (W.drewN q) os' := by
  obtain ⟨xc, xf, xt⟩ := x
  obtain ⟨yc, yf, yt⟩ := y
  go_enter Try.func23, Try.ntmps23
  go_wp2
  go_ret
  exact ⟨rfl, 0, _, by rw [alloc_eq_grow, alloc_eq_grow, grow_grow]; rfl⟩
theorem cmpL (blk off size : Nat) (w : World) : CmpLays Try.prog 23 #[] csV 3 cfL blk off size w := fun _ _ _ _ x y => less_one x y _
theorem eg23 : ∀ (args : Array Value) (w : World), (callFunc 23 args).run Try.prog w = .ok (.enter 23 args) w := enters_of Try.func23 (by kernel_rfl) rfl

/-- A row that is put in some order. -/
def SortedP (l : List Cs) (b n : Nat) (w : World) (e : Ending) (w' : World) : Prop :=
  e = .returned (.tuple #[]) ∧ (∃ l' : List Cs, l'.Perm l ∧ Sl w' w'.heap.size 3 (some ⟨b, 0, none⟩) n (fun i => csV l'[i]!)) ∧ ∀ B, B ≤ b → B ≤ w.heap.size → Below B w w'

theorem InsSort_any (b c n base : Nat) (l : List Cs) (w : World) (h : w.ownsRow base 27 3 (.slice (some ⟨b, 0, none⟩) n c) n (css l)) (hn : l.length = n) (hN : n ≤ 1000) :
    Calls Try.prog 33 #[.slice (some ⟨b, 0, none⟩) n c, .int .i64 0, .int .i64 (n : Int), .func (.func 23) #[] #[]] w (SortedP l b n w) := by
  have hH := holdsK_own csV_len (by decide) h hn
  have hlt := (h.lt b rfl).2
  have hsz : l.toArray.size = n := by simpa using hn
  have hcon := AnyQ.insertionSortCmpFunc Try.l33 3 Try.isAgg27 Try.sizeOf27 csV csV_len csV_one cfL 23 #[] b 0 c 0 l.toArray.size l.toArray w eg23 (cmpL _ _ _ _) hH hlt (Nat.zero_le _) (Nat.le_refl _) (by omega)
  change Calls Try.prog 33 _ _ _ at hcon
  rw [hsz] at hcon
  refine hcon.mono ?_
  rintro e w' ⟨rfl, m, os, rfl⟩
  obtain ⟨hp, hs⟩ := insertion_perm (ltOf cfL) l.toArray
  rw [hsz] at hp hs
  refine ⟨rfl, ⟨(insertionSort (ltOf cfL) l.toArray 0 n).toList, by simpa using hp, ?_⟩, fun B h1 h2 => below_sortK csV 3 w b 0 m _ os B h1 h2⟩
  exact Sl_holdsK csV_len (holdsK_sortWorldK_c csV 3 w b 0 l.toArray _ m os hH hlt (by rw [hs, hsz])) hs (Nat.lt_of_lt_of_le hlt (size_sortWorldK_c csV 3 w b 0 m _ os))
end Go.Proofs.Ytjlbhifkhbpddaa
