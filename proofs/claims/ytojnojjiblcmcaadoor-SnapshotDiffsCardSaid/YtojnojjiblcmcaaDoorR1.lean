/- Plain laws: how a state's text is read. -/
import Derived.Test.YtojnojjiblcmcaaDoorB3
import Derived.Lib.Split
import Derived.Lib.SplitLaws
import Derived.Lib.IndexMore
namespace Go.Proofs.YtojnojjiblcmcaaDoor
open Go.RowKit
open Go.Lib hiding intOf

abbrev B8 := List UInt8
abbrev by_ (s : ByteArray) : B8 := s.data.toList
def mkB (l : B8) : ByteArray := ⟨l.toArray⟩
theorem by_mkB (l : B8) : by_ (mkB l) = l := by simp [by_, mkB]
theorem by_inj {x y : ByteArray} (h : by_ x = by_ y) : x = y := by
  cases x with | mk a => cases y with | mk b => exact congrArg ByteArray.mk (Array.toList_inj.1 h)
theorem mkB_by (s : ByteArray) : mkB (by_ s) = s := by_inj (by_mkB _)
theorem by_app (x y : ByteArray) : by_ (x ++ y) = by_ x ++ by_ y := by simp [by_]
theorem size_by (s : ByteArray) : (by_ s).length = s.size := by simp [by_]
theorem size_mkB (l : B8) : (mkB l).size = l.length := by rw [← size_by, by_mkB]

theorem index_at (c : UInt8) : ∀ (a r : B8), (∀ b ∈ a, b ≠ c) → index (a ++ c :: r) [c] = (a.length : Int)
  | [], r, _ => by simp [index]
  | b :: a, r, h => by
    have hb : b ≠ c := h b (by simp)
    have ih := index_at c a r (fun x hx => h x (by simp [hx]))
    rw [List.cons_append, index, ih]
    have h1 : List.isPrefixOf [c] (b :: (a ++ c :: r)) = false := by
      simp only [List.isPrefixOf, Bool.and_true]
      simp [Ne.symm hb]
    rw [h1, List.length_cons]
    have h2 : ((a.length : Int) == -1) = false := by rw [beq_eq_false_iff_ne]; omega
    simp [h2]

/-- A line: the key, the sign, the value. -/
def lnL (x : Rw) : B8 := by_ x.1 ++ 61 :: by_ x.2
/-- The lines behind the first one, each with a newline ahead of it. -/
def bodyL : List Rw → B8
  | [] => []
  | x :: r => 10 :: (lnL x ++ bodyL r)

theorem by_lines : ∀ (l : List Rw), 10 :: by_ (linesB l) = bodyL l ++ [10]
  | [] => rfl
  | x :: r => by
    have ih := by_lines r
    rw [linesB, by_app, bodyL, List.cons_append, List.append_assoc, ← ih]
    have : by_ (lnB x) = lnL x ++ [10] := by
      unfold lnB lnL
      rw [by_app, by_app, by_app, show by_ bEq = [61] from rfl, show by_ bNl = [10] from rfl]
      simp
    rw [this]
    simp

theorem count_app (c : UInt8) (a r : B8) (h : ∀ b ∈ a, b ≠ c) : count (a ++ c :: r) [c] = 1 + count r [c] := by
  rw [count_one, count_one, List.count_append, List.count_cons_self, List.count_eq_zero.2 (fun hc => h c hc rfl)]
  omega
theorem count_none (c : UInt8) (a : B8) (h : ∀ b ∈ a, b ≠ c) : count a [c] = 0 := by
  rw [count_one]
  exact List.count_eq_zero.2 (fun hc => h c hc rfl)

theorem split_body : ∀ (l : List Rw) (a : B8), (∀ b ∈ a, b ≠ 10) → (∀ x ∈ l, ∀ b ∈ lnL x, b ≠ 10) → splitK [10] 0 (count (a ++ bodyL l) [10]) (a ++ bodyL l) = a :: l.map lnL
  | [], a, ha, _ => by
    rw [bodyL, List.append_nil, count_none 10 a ha]
    rfl
  | x :: r, a, ha, hl => by
    have ih := split_body r (lnL x) (hl x (by simp)) (fun y hy => hl y (by simp [hy]))
    rw [bodyL, count_app 10 a _ ha, Nat.add_comm 1, splitK, index_at 10 a _ ha]
    have h2 : ((a.length : Int) == -1) = false := by rw [beq_eq_false_iff_ne]; omega
    rw [h2]
    have e1 : (a ++ 10 :: (lnL x ++ bodyL r)).take a.length = a := List.take_left
    have e2 : (a ++ 10 :: (lnL x ++ bodyL r)).drop (a.length + 1) = lnL x ++ bodyL r := by
      rw [show a ++ 10 :: (lnL x ++ bodyL r) = (a ++ [10]) ++ (lnL x ++ bodyL r) by simp]
      exact List.drop_left' (by simp)
    simp only [Int.toNat_natCast, Nat.add_zero, List.length_singleton, e1, e2, ih, List.map_cons]
    rfl

/-- A line cut at the first sign. -/
def cutE (s : B8) : B8 × B8 × Bool := cut s [61]
theorem cutE_line (x : Rw) (h : ∀ b ∈ by_ x.1, b ≠ 61) : cutE (lnL x) = (by_ x.1, by_ x.2, true) := by
  unfold cutE cut lnL
  rw [index_at 61 _ _ h, if_pos (by omega), Int.toNat_natCast]
  have e1 : (by_ x.1 ++ 61 :: by_ x.2).take (by_ x.1).length = by_ x.1 := List.take_left
  have e2 : (by_ x.1 ++ 61 :: by_ x.2).drop ((by_ x.1).length + 1) = by_ x.2 := by
    rw [show by_ x.1 ++ 61 :: by_ x.2 = (by_ x.1 ++ [61]) ++ by_ x.2 by simp]
    exact List.drop_left' (by simp)
  rw [e1, List.length_singleton, e2]

/-- The rows of lines, if each has its sign. -/
def rowsL : List B8 → Option (List Rw)
  | [] => some []
  | x :: r => if (cutE x).2.2 = true then (rowsL r).map ((mkB (cutE x).1, mkB (cutE x).2.1) :: ·) else none
theorem rowsL_lines : ∀ (l : List Rw), (∀ x ∈ l, ∀ b ∈ by_ x.1, b ≠ 61) → rowsL (l.map lnL) = some l
  | [], _ => rfl
  | x :: r, h => by
    rw [List.map_cons, rowsL, cutE_line x (h x (by simp)), if_pos rfl, rowsL_lines r (fun y hy => h y (by simp [hy]))]
    simp only [Option.map_some, mkB_by]

/-- What Read answers. -/
def readL (s : ByteArray) : List Rw × Int :=
  if 8192 < s.size then ([], 2) else if hasSuffix (by_ s) [10] = false then ([], 5)
  else match rowsL ((splitK [10] 0 (count (trimSuffix (by_ s) [10]) [10]) (trimSuffix (by_ s) [10])).drop 1) with
    | none => ([], 5)
    | some out => if checkL out ≠ 0 then ([], checkL out) else if textB out ≠ s then ([], 13) else (out, 0)

theorem hexL_chars (u : Nat) : ∀ b ∈ by_ (strOfNums (hexL u)), b ≠ 10 := by
  have hd : ∀ k, k < 16 → UInt8.ofNat (hexd k).toNat ≠ 10 := by decide
  have h : ∀ (n u : Nat), u ≤ n → ∀ b ∈ by_ (strOfNums (hexL u)), b ≠ 10 := by
    intro n
    induction n with
    | zero =>
      intro u hu
      obtain rfl : u = 0 := by omega
      rw [hexL_lt (by omega)]
      intro b hb
      have : b = UInt8.ofNat (hexd 0).toNat := by simpa [by_, strOfNums] using hb
      rw [this]
      exact hd 0 (by omega)
    | succ n ih =>
      intro u hu b hb
      by_cases h16 : u < 16
      · rw [hexL_lt h16] at hb
        have : b = UInt8.ofNat (hexd u).toNat := by simpa [by_, strOfNums] using hb
        rw [this]
        exact hd u h16
      · rw [hexL_ge h16] at hb
        have hb' : b ∈ by_ (strOfNums (hexL (u / 16))) ∨ b = UInt8.ofNat (hexd (u % 16)).toNat := by
          simp only [by_, strOfNums, List.map_append, List.mem_append] at hb
          simpa [by_, strOfNums] using hb
        rcases hb' with hb' | rfl
        · exact ih (u / 16) (by omega) b hb'
        · exact hd _ (Nat.mod_lt _ (by omega))
  exact h u u (Nat.le_refl _)

theorem key_chars {k : ByteArray} (h : keyB k = true) : ∀ b ∈ by_ k, b ≠ 61 ∧ b ≠ 10 := by
  unfold keyB at h
  simp only [Bool.and_eq_true, List.all_eq_true, List.mem_range] at h
  intro b hb
  obtain ⟨i, hi, he⟩ := List.mem_iff_getElem.1 hb
  have := h.2 i (by rw [← size_by]; exact hi)
  rw [List.getD_eq_getElem?_getD, show k.data.toList[i]? = some b from by rw [List.getElem?_eq_getElem hi, he]] at this
  simp only [Option.getD_some] at this
  constructor
  · rintro rfl; revert this; decide
  · rintro rfl; revert this; decide
theorem val_chars {k : ByteArray} (h : valB k = true) : ∀ b ∈ by_ k, b ≠ 10 := by
  unfold valB at h
  simp only [Bool.and_eq_true, List.all_eq_true, List.mem_range] at h
  intro b hb
  obtain ⟨i, hi, he⟩ := List.mem_iff_getElem.1 hb
  have := h.2 i (by rw [← size_by]; exact hi)
  rw [List.getD_eq_getElem?_getD, show k.data.toList[i]? = some b from by rw [List.getElem?_eq_getElem hi, he]] at this
  simp only [Option.getD_some] at this
  rintro rfl; revert this; decide

theorem by_text (l : List Rw) : by_ (textB l) = by_ (strOfNums (hexL (digN l))) ++ bodyL l ++ [10] := by
  unfold textB
  rw [by_app, by_app, show by_ bNl = [10] from rfl, List.append_assoc, List.append_assoc, ← by_lines]
  rfl
theorem suffix_snoc (a : B8) : hasSuffix (a ++ [10]) [10] = true := by
  unfold hasSuffix
  exact List.isSuffixOf_iff_suffix.2 ⟨a, rfl⟩
theorem trim_snoc (a : B8) : trimSuffix (a ++ [10]) [10] = a := by
  unfold trimSuffix
  rw [suffix_snoc, if_pos rfl, List.length_append, List.length_singleton, Nat.add_sub_cancel]
  exact List.take_left

/-- A state is read as it was written. -/
theorem read_text {l : List Rw} (h : Fine l) (hs : (textB l).size ≤ 8192) : readL (textB l) = (l, 0) := by
  have hc := fine_check h
  have hln : ∀ x ∈ l, ∀ b ∈ lnL x, b ≠ 10 := fun x hx b hb => by
    obtain ⟨h1, h2⟩ := h.key x hx
    unfold lnL at hb
    rcases List.mem_append.1 hb with hb | hb
    · exact (key_chars h1 b hb).2
    · rcases List.mem_cons.1 hb with rfl | hb
      · decide
      · exact val_chars h2 b hb
  unfold readL
  rw [if_neg (by omega), by_text, suffix_snoc, if_neg (by decide), trim_snoc, split_body l _ (hexL_chars _) hln]
  rw [List.drop_succ_cons, List.drop_zero, rowsL_lines l (fun x hx b hb => (key_chars (h.key x hx).1 b hb).1)]
  dsimp only
  rw [if_neg (by simpa using hc), if_neg (by simp)]

/-- What is read is written as it was. -/
theorem read_ok {s : ByteArray} (h : (readL s).2 = 0) : checkL (readL s).1 = 0 ∧ textB (readL s).1 = s := by
  unfold readL at h ⊢
  by_cases h1 : 8192 < s.size
  · rw [if_pos h1] at h; cases h
  rw [if_neg h1] at h ⊢
  by_cases h2 : hasSuffix (by_ s) [10] = false
  · rw [if_pos h2] at h; cases h
  rw [if_neg h2] at h ⊢
  cases hr : rowsL ((splitK [10] 0 (count (trimSuffix (by_ s) [10]) [10]) (trimSuffix (by_ s) [10])).drop 1) with
  | none => rw [hr] at h; cases h
  | some out =>
    rw [hr] at h
    dsimp only at h ⊢
    by_cases h3 : checkL out = 0
    · rw [if_neg (by simpa using h3)] at h ⊢
      by_cases h4 : textB out = s
      · rw [if_neg (by simpa using h4)]
        exact ⟨h3, h4⟩
      · rw [if_pos h4] at h; cases h
    · rw [if_pos h3] at h; exact absurd h h3
theorem read_err {s : ByteArray} (h : (readL s).2 ≠ 0) : (readL s).1 = [] := by
  unfold readL at h ⊢
  by_cases h1 : 8192 < s.size
  · rw [if_pos h1]
  rw [if_neg h1] at h ⊢
  by_cases h2 : hasSuffix (by_ s) [10] = false
  · rw [if_pos h2]
  rw [if_neg h2] at h ⊢
  cases hr : rowsL ((splitK [10] 0 (count (trimSuffix (by_ s) [10]) [10]) (trimSuffix (by_ s) [10])).drop 1) with
  | none => rfl
  | some out =>
    rw [hr] at h
    dsimp only at h ⊢
    by_cases h3 : checkL out = 0
    · rw [if_neg (by simpa using h3)] at h ⊢
      by_cases h4 : textB out = s
      · rw [if_neg (by simpa using h4)] at h; exact absurd rfl h
      · rw [if_pos h4]
    · rw [if_pos h3]
end Go.Proofs.YtojnojjiblcmcaaDoor
