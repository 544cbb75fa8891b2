/- Package strip: sorting calls; plain laws of StripBays. -/
import Derived.Test.YtadhkncilokdjaaDoorB2
import Derived.Sort.OwnSorted
import Derived.Shelf.Slices.In.SortNone
namespace Go.Proofs.YtadhkncilokdjaaDoor
open Go.RowKit Go.Sort
open Go.Lib hiding intOf

def strV (x : ByteArray) : List Value := [.string x]
theorem strV_len (x : ByteArray) : (strV x).length = 1 := rfl
def strsK (l : List ByteArray) : List Value := rowsV strV l
def leB (x y : L8) : Bool := decide (x ≤ y)
/-- The texts in order. -/
def sortS (l : List ByteArray) : List ByteArray := ((l.map bl).mergeSort leB).map mk
theorem encS (l : List ByteArray) : strsK l = (l.map bl).map encStr := by
  induction l with
  | nil => rfl
  | cons x l ih =>
    rw [strsK, rowsV_cons, List.map_cons, List.map_cons, ← ih]
    show [Value.string x] ++ _ = encStr (bl x) :: _
    rw [show encStr (bl x) = Value.string x from congrArg Value.string (mk_bl x)]
    rfl
theorem sortS_len (l : List ByteArray) : (sortS l).length = l.length := by simp [sortS]
theorem sortS_enc (l : List ByteArray) : strsK (sortS l) = ((l.map bl).mergeSort leB).map encStr := by
  have e : (bl ∘ mk : L8 → L8) = id := funext fun x => bl_mk x
  have e2 : (((l.map bl).mergeSort leB).map mk).map bl = (l.map bl).mergeSort leB := by rw [List.map_map, e, List.map_id]
  rw [encS, sortS, e2]
theorem sortS_congr {l m : List ByteArray} (h : l.Perm m) : sortS l = sortS m := by
  unfold sortS
  congr 1
  refine List.Perm.eq_of_pairwise (le := fun a b : L8 => leB a b = true) (fun a b _ _ h1 h2 => ?_) ?_ ?_ ?_
  · simp only [leB, decide_eq_true_eq] at h1 h2
    exact List.le_antisymm h1 h2
  · exact List.pairwise_mergeSort (le := leB) (fun a b c h1 h2 => by simp only [leB, decide_eq_true_eq] at *; exact List.le_trans h1 h2) (fun a b => by simp only [leB, Bool.or_eq_true, decide_eq_true_eq]; exact List.le_total a b) _
  · exact List.pairwise_mergeSort (le := leB) (fun a b c h1 h2 => by simp only [leB, decide_eq_true_eq] at *; exact List.le_trans h1 h2) (fun a b => by simp only [leB, Bool.or_eq_true, decide_eq_true_eq]; exact List.le_total a b) _
  · exact (List.mergeSort_perm _ _).trans ((h.map bl).trans (List.mergeSort_perm _ _).symm)

theorem SortC_any (base n c : Nat) (A : Option Addr) (l : List ByteArray) (w : World) (hO : w.ownsRow base 9 1 (.slice A n c) n (strsK l)) (hl : l.length = n) (hb : base ≤ w.heap.size) (hn : n ≤ 1000) :
    Calls Tryd.prog 13 #[.slice A n c] w fun e w' => e = .returned (.tuple #[]) ∧ w'.ownsRow base 9 1 (.slice A n c) n (strsK (sortS l)) ∧ Below base w w' ∧ w.grownBy w' (Value.slice A n c).ownBlock := by
  cases A with
  | none =>
    obtain ⟨h1, h2⟩ := own_nil hO rfl
    subst h1 h2
    have hl0 : l = [] := List.length_eq_zero_iff.1 hl
    subst hl0
    refine (Any.slices_Sort_string_none Tryd.lays190 none 0 w).mono ?_
    rintro e w' ⟨he, rfl⟩
    exact ⟨he, by rw [show sortS [] = [] from List.length_eq_zero_iff.1 (sortS_len [])]; exact World.ownsRow_nil _ _ _ _, (Below.refl _ _).mono hb, rfl, rfl, rfl, Nat.le_refl _, fun _ _ _ => rfl⟩
  | some a =>
    rcases hO.2 with ⟨h', _⟩ | ⟨g, cap, cur, h', hg, hh, hnc, hcm, hcs, htake⟩
    · simp at h'
    · simp only [Value.slice.injEq, Option.some.injEq, true_and] at h'
      obtain ⟨rfl, rfl⟩ := h'
      have hlt := (hO.lt g rfl).2
      have hH : Holds encStr w g 0 (l.map bl).toArray := fun i hi => by
        have hi' : i < l.length := by simpa using hi
        have q1 := hO.cellAt i (by omega)
        rw [Nat.zero_add, q1, encS]
        exact ⟨by simp [hi'], hO.frozenAt i⟩
      have hcon := Any.slices_Sort_string Tryd.lays190 g 0 c (l.map bl) w hH hlt (by simp; omega)
      rw [List.length_map, hl] at hcon
      refine hcon.mono ?_
      rintro e w' ⟨he, m, os, hw⟩
      have hown := ownsRow_sorted (w := w) (base := base) (g := g) (cap := c) (n := m) (os := os) (ss := l.map bl) (ts := (l.map bl).mergeSort leB) (by simp) hg hh (by rw [List.length_map, hl]; exact hnc) hcm hcs
      rw [List.length_map, hl, ← sortS_enc] at hown
      have hgr := grownBy_sorted (w := w) (g := g) (n := m) (os := os) ((l.map bl).mergeSort leB).toArray
      subst hw
      exact ⟨he, hown, ((Below.refl _ w).mono hb).grown hgr hb (fun k hk => by injection hk with hk; omega), hgr⟩

set_option maxRecDepth 100000 in
set_option maxHeartbeats 4000000 in
theorem EqualC (A B : Option Addr) (f : Nat → ByteArray) (n c d N : Nat) (w : World) (hA : Sl w N 1 A n (fun i => [.string (f i)])) (hB : Sl w N 1 B n (fun i => [.string (f i)])) (hn : n ≤ 1000) :
    Calls Tryd.prog 14 #[.slice A n c, .slice B n d] w fun e w' => e = .returned (.bool true) ∧ ∃ q, w' = w.drewN q := by
  have HA := Lib.hid hA
  have HB := Lib.hid hB
  clear hA hB
  go_enter Tryd.func14, Tryd.ntmps14
  go_wp2
  go_loopw [13] (fun k wr => ∃ j : Nat, j ≤ n ∧ k = .int .i64 j ∧ ∃ q, wr = w.drewN q) (fun k _ => n - (intOf k).toNat)
  case atStart => exact ⟨0, by omega, rfl, 0, rfl⟩
  case round =>
    obtain ⟨j, hj, rfl, q, rfl⟩ := hrel
    by_cases hlt : j < n
    · obtain ⟨b, off, rfl, hb, hc⟩ := HA.out.one (by omega)
      obtain ⟨b2, off2, rfl, hb2, hc2⟩ := HB.out.one (by omega)
      have c1 := hc j hlt
      have c2 := hc2 j hlt
      clear hc hc2
      generalize f j = x at *
      have l1 : (j : Int) < (n : Int) := by omega
      have l0 : (0 : Int) ≤ (j : Int) := by omega
      go_wp2
      go_quiet (fail)
      go_wp2
      go_roundw
      case rel => exact ⟨j + 1, by omega, by go_num, _, rfl⟩
      case measure => simp [intOf]; omega
    · go_wp2
      go_ret
      exact ⟨rfl, q, rfl⟩

theorem Count_nl (s : ByteArray) (w : World) : Calls Tryd.prog 15 #[.string s, .string ⟨#[10]⟩] w fun e w' => e = .returned (.int .i64 (Lib.countByte s.data.toList 10)) ∧ w' = w :=
  Any.strings_Count_one Tryd.lays138 s 10 w

/-- The bays part the board. -/
theorem bays_perm : ∀ l : List Va, (bayF 0 l ++ (bayF 1 l ++ (bayF 2 l ++ bayF 3 l))).Perm l
  | [] => List.Perm.refl _
  | x :: l => by
    have ih := bays_perm l
    have hb := (stE_zero x.2).2.2.2.2.2.2
    have hc : ∀ b : Int, bayF b (x :: l) = if x.1.b = b then x :: bayF b l else bayF b l := fun b => by
      unfold bayF
      rw [List.filter_cons]
      simp
    have h4 : x.1.b = 0 ∨ x.1.b = 1 ∨ x.1.b = 2 ∨ x.1.b = 3 := by omega
    rw [hc, hc, hc, hc]
    rcases h4 with h | h | h | h
    · simp only [h]
      exact ih.cons x
    · simp only [h]
      exact List.perm_middle.trans (ih.cons x)
    · simp only [h]
      refine List.Perm.trans ?_ (ih.cons x)
      show (bayF 0 l ++ (bayF 1 l ++ (x :: bayF 2 l ++ bayF 3 l))).Perm _
      rw [← List.append_assoc (bayF 0 l), ← List.append_assoc (bayF 0 l)]
      exact List.perm_middle
    · simp only [h]
      refine List.Perm.trans ?_ (ih.cons x)
      show (bayF 0 l ++ (bayF 1 l ++ (bayF 2 l ++ x :: bayF 3 l))).Perm _
      exact (((List.perm_middle.append_left (bayF 1 l)).trans List.perm_middle).append_left (bayF 0 l)).trans List.perm_middle
def callsS (S : Nat → List Va) : Nat → List ByteArray
  | 0 => []
  | b + 1 => callsS S b ++ (S b).map (fun z : Va => z.1.c)
theorem callsS_congr {S S' : Nat → List Va} : ∀ b, (∀ k, k < b → S k = S' k) → callsS S b = callsS S' b
  | 0, _ => rfl
  | b + 1, h => by rw [callsS, callsS, callsS_congr b (fun k hk => h k (by omega)), h b (by omega)]
theorem callsS_perm {S : Nat → List Va} {l : List Va} (h : ∀ k, k < 4 → (S k).Perm (bayF (k : Int) l)) : (callsS S 4).Perm (l.map (fun z : Va => z.1.c)) := by
  have h0 := (h 0 (by decide)).map (fun z : Va => z.1.c)
  have h1 := (h 1 (by decide)).map (fun z : Va => z.1.c)
  have h2 := (h 2 (by decide)).map (fun z : Va => z.1.c)
  have h3 := (h 3 (by decide)).map (fun z : Va => z.1.c)
  have hp := (bays_perm l).map (fun z : Va => z.1.c)
  rw [List.map_append, List.map_append, List.map_append] at hp
  refine List.Perm.trans ?_ hp
  show ((([] ++ (S 0).map _) ++ (S 1).map _) ++ (S 2).map _ ++ (S 3).map _).Perm _
  rw [List.nil_append, List.append_assoc, List.append_assoc]
  exact h0.append (h1.append (h2.append h3))

theorem dg_ne {n : Int} (h : 0 ≤ n) : (itoa n).count 10 = 0 := by
  rw [List.count_eq_zero]
  intro hm
  unfold itoa at hm
  rw [if_neg (by omega)] at hm
  have := decDigits_dg _ _ hm
  simp [isDg] at this
theorem name_ne {s : ByteArray} (h : nameB s = true) : (bl s).count 10 = 0 := by
  rw [List.count_eq_zero]
  intro hm
  obtain ⟨i, hi, he⟩ := List.mem_iff_getElem.1 hm
  unfold nameB at h
  simp only [Bool.and_eq_true, List.all_eq_true] at h
  have := h.2 i (List.mem_range.2 (by rw [← size_bl]; exact hi))
  have e : s.data.toList.getD i 0 = 10 := by
    rw [List.getD_eq_getElem?_getD, List.getElem?_eq_getElem hi]; exact he
  rw [e] at this
  simp [letB] at this
theorem nl_line (b : Nat) (x : Va) : (lineB b x.1).count 10 = 1 := by
  obtain ⟨h1, h2, h3, h4, h5, h6, h7, h8⟩ := stE_zero x.2
  unfold lineB
  simp only [List.count_append, dg_ne (show (0 : Int) ≤ (b : Int) by omega), dg_ne h3, dg_ne h5, name_ne h1, name_ne h2]
  rfl
theorem nl_bay (b : Nat) : ∀ s : List Va, (baySt b s).count 10 = s.length
  | [] => rfl
  | x :: s => by
    have ih := nl_bay b s
    unfold baySt at ih ⊢
    rw [List.flatMap_cons, List.count_append, ih, nl_line, List.length_cons]; omega
theorem nl_all {S : Nat → List Va} {l : List Va} (h : ∀ k, k < 4 → (S k).Perm (bayF (k : Int) l)) : Lib.countByte (bl (mk (allSt S 4))) 10 = l.length := by
  unfold Lib.countByte
  rw [bl_mk]
  simp only [allSt, List.nil_append, List.count_append, nl_bay]
  have h0 := (h 0 (by decide)).length_eq
  have h1 := (h 1 (by decide)).length_eq
  have h2 := (h 2 (by decide)).length_eq
  have h3 := (h 3 (by decide)).length_eq
  have hp : (bayF ((0 : Nat) : Int) l ++ (bayF ((1 : Nat) : Int) l ++ (bayF ((2 : Nat) : Int) l ++ bayF ((3 : Nat) : Int) l))).length = l.length := (bays_perm l).length_eq
  simp only [List.length_append] at hp
  rw [h0, h1, h2, h3, ← hp]
  omega

def CallsNd (l : List Va) : Prop := (l.map (fun z : Va => z.1.c)).Nodup
theorem nd_of_dist {l : List Va} (h : Dist l) : CallsNd l := by
  unfold CallsNd List.Nodup
  rw [List.pairwise_map, List.pairwise_iff_getElem]
  intro i j hi hj hij e
  have := h i j hi hj (by rw [getElem!_pos l i hi, getElem!_pos l j hj]; exact e)
  omega
/-- What the law looks at between neighbours. -/
theorem bay_step {l s : List Va} {b : Int} (hd : CallsNd l) (hp : s.Perm (bayF b l)) (hs : ∀ i j, i < j → j < s.length → 0 ≤ cfS s[j]! s[i]!) {k : Nat} (hk : k + 1 < s.length) :
    ¬ s[k + 1]!.1.t < s[k]!.1.t ∧ (s[k + 1]!.1.t = s[k]!.1.t → lsS s[k + 1]!.1.c s[k]!.1.c = false ∧ s[k + 1]!.1.c ≠ s[k]!.1.c) := by
  have h := hs k (k + 1) (by omega) hk
  have hn : ¬ cfS s[k + 1]! s[k]! < 0 := by omega
  rw [cfS_lt] at hn
  have hnd : (s.map (fun z : Va => z.1.c)).Nodup := by
    have h1 : ((bayF b l).map (fun z : Va => z.1.c)).Nodup := hd.sublist (List.filter_sublist.map _)
    exact ((hp.map (fun z : Va => z.1.c)).nodup_iff).2 h1
  refine ⟨fun e => hn (.inl e), fun e => ⟨?_, fun hc => ?_⟩⟩
  · rw [Bool.eq_false_iff]; exact fun x => hn (.inr ⟨e, x⟩)
  · have h2 := List.pairwise_iff_getElem.1 hnd k (k + 1) (by rw [List.length_map]; omega) (by rw [List.length_map]; exact hk) (by omega)
    rw [List.getElem_map, List.getElem_map] at h2
    rw [getElem!_pos s (k + 1) hk, getElem!_pos s k (by omega)] at hc
    exact h2 hc.symm
end Go.Proofs.YtadhkncilokdjaaDoor
