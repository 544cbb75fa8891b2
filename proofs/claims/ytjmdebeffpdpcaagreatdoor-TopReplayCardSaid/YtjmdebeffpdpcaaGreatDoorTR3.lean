/- Package snapshot: Read. -/
import Derived.Test.YtjmdebeffpdpcaaGreatDoorSB3
import Derived.Test.YtjmdebeffpdpcaaGreatDoorTB1
import Derived.Lib.Split
import Derived.Lib.SplitLaws
import Derived.Lib.IndexMore
import Derived.Test.YtjmdebeffpdpcaaGreatDoorSh
import Derived.Test.YtjmdebeffpdpcaaGreatDoorMore
namespace Go.Proofs.YtjmdebeffpdpcaaGreatDoor
open Go.RowKit
open Go.Lib hiding intOf

abbrev B8 := List UInt8
abbrev by_ (s : ByteArray) : B8 := s.data.toList
def mkB (l : B8) : ByteArray := ⟨l.toArray⟩
theorem by_mkB (l : B8) : by_ (mkB l) = l := by simp [by_, mkB]
theorem by_inj {x y : ByteArray} (h : by_ x = by_ y) : x = y := by
  cases x with | mk a => cases y with | mk b => exact congrArg ByteArray.mk (Array.toList_inj.1 h)
theorem mkB_by (s : ByteArray) : mkB (by_ s) = s := by_inj (by_mkB _)
theorem by_app (x y : ByteArray) : by_ (x ++ y) = by_ x ++ by_ y := by simp [by_]
theorem size_by (s : ByteArray) : (by_ s).length = s.size := by simp [by_]
theorem size_mkB (l : B8) : (mkB l).size = l.length := by rw [← size_by, by_mkB]

theorem index_at (c : UInt8) : ∀ (a r : B8), (∀ b ∈ a, b ≠ c) → index (a ++ c :: r) [c] = (a.length : Int)
  | [], r, _ => by simp [index]
  | b :: a, r, h => by
    have hb : b ≠ c := h b (by simp)
    have ih := index_at c a r (fun x hx => h x (by simp [hx]))
    rw [List.cons_append, index, ih]
    have h1 : List.isPrefixOf [c] (b :: (a ++ c :: r)) = false := by
      simp only [List.isPrefixOf, Bool.and_true]
      simp [Ne.symm hb]
    rw [h1, List.length_cons]
    have h2 : ((a.length : Int) == -1) = false := by rw [beq_eq_false_iff_ne]; omega
    simp [h2]

/-- A line: the key, the sign, the value. -/
def lnL (x : Rw) : B8 := by_ x.1 ++ 61 :: by_ x.2
/-- The lines behind the first one, each with a newline ahead of it. -/
def bodyL : List Rw → B8
  | [] => []
  | x :: r => 10 :: (lnL x ++ bodyL r)

theorem by_lines : ∀ (l : List Rw), 10 :: by_ (linesB l) = bodyL l ++ [10]
  | [] => rfl
  | x :: r => by
    have ih := by_lines r
    rw [linesB, by_app, bodyL, List.cons_append, List.append_assoc, ← ih]
    have : by_ (lnB x) = lnL x ++ [10] := by
      unfold lnB lnL
      rw [by_app, by_app, by_app, show by_ bEq = [61] from rfl, show by_ bNl = [10] from rfl]
      simp
    rw [this]
    simp

theorem count_app (c : UInt8) (a r : B8) (h : ∀ b ∈ a, b ≠ c) : count (a ++ c :: r) [c] = 1 + count r [c] := by
  rw [count_one, count_one, List.count_append, List.count_cons_self, List.count_eq_zero.2 (fun hc => h c hc rfl)]
  omega
theorem count_none (c : UInt8) (a : B8) (h : ∀ b ∈ a, b ≠ c) : count a [c] = 0 := by
  rw [count_one]
  exact List.count_eq_zero.2 (fun hc => h c hc rfl)

theorem split_body : ∀ (l : List Rw) (a : B8), (∀ b ∈ a, b ≠ 10) → (∀ x ∈ l, ∀ b ∈ lnL x, b ≠ 10) → splitK [10] 0 (count (a ++ bodyL l) [10]) (a ++ bodyL l) = a :: l.map lnL
  | [], a, ha, _ => by
    rw [bodyL, List.append_nil, count_none 10 a ha]
    rfl
  | x :: r, a, ha, hl => by
    have ih := split_body r (lnL x) (hl x (by simp)) (fun y hy => hl y (by simp [hy]))
    rw [bodyL, count_app 10 a _ ha, Nat.add_comm 1, splitK, index_at 10 a _ ha]
    have h2 : ((a.length : Int) == -1) = false := by rw [beq_eq_false_iff_ne]; omega
    rw [h2]
    have e1 : (a ++ 10 :: (lnL x ++ bodyL r)).take a.length = a := List.take_left
    have e2 : (a ++ 10 :: (lnL x ++ bodyL r)).drop (a.length + 1) = lnL x ++ bodyL r := by
      rw [show a ++ 10 :: (lnL x ++ bodyL r) = (a ++ [10]) ++ (lnL x ++ bodyL r) by simp]
      exact List.drop_left' (by simp)
    simp only [Int.toNat_natCast, Nat.add_zero, List.length_singleton, e1, e2, ih, List.map_cons]
    rfl

/-- A line cut at the first sign. -/
def cutE (s : B8) : B8 × B8 × Bool := cut s [61]
theorem cutE_line (x : Rw) (h : ∀ b ∈ by_ x.1, b ≠ 61) : cutE (lnL x) = (by_ x.1, by_ x.2, true) := by
  unfold cutE cut lnL
  rw [index_at 61 _ _ h, if_pos (by omega), Int.toNat_natCast]
  have e1 : (by_ x.1 ++ 61 :: by_ x.2).take (by_ x.1).length = by_ x.1 := List.take_left
  have e2 : (by_ x.1 ++ 61 :: by_ x.2).drop ((by_ x.1).length + 1) = by_ x.2 := by
    rw [show by_ x.1 ++ 61 :: by_ x.2 = (by_ x.1 ++ [61]) ++ by_ x.2 by simp]
    exact List.drop_left' (by simp)
  rw [e1, List.length_singleton, e2]

/-- The rows of lines, if each has its sign. -/
def rowsL : List B8 → Option (List Rw)
  | [] => some []
  | x :: r => if (cutE x).2.2 = true then (rowsL r).map ((mkB (cutE x).1, mkB (cutE x).2.1) :: ·) else none
theorem rowsL_lines : ∀ (l : List Rw), (∀ x ∈ l, ∀ b ∈ by_ x.1, b ≠ 61) → rowsL (l.map lnL) = some l
  | [], _ => rfl
  | x :: r, h => by
    rw [List.map_cons, rowsL, cutE_line x (h x (by simp)), if_pos rfl, rowsL_lines r (fun y hy => h y (by simp [hy]))]
    simp only [Option.map_some, mkB_by]

/-- What Read answers. -/
def readL (s : ByteArray) : List Rw × Int :=
  if 8192 < s.size then ([], 2) else if hasSuffix (by_ s) [10] = false then ([], 5)
  else match rowsL ((splitK [10] 0 (count (trimSuffix (by_ s) [10]) [10]) (trimSuffix (by_ s) [10])).drop 1) with
    | none => ([], 5)
    | some out => if checkL out ≠ 0 then ([], checkL out) else if textB out ≠ s then ([], 13) else (out, 0)

theorem hexL_chars (u : Nat) : ∀ b ∈ by_ (strOfNums (hexL u)), b ≠ 10 := by
  have hd : ∀ k, k < 16 → UInt8.ofNat (hexd k).toNat ≠ 10 := by decide
  have h : ∀ (n u : Nat), u ≤ n → ∀ b ∈ by_ (strOfNums (hexL u)), b ≠ 10 := by
    intro n
    induction n with
    | zero =>
      intro u hu
      obtain rfl : u = 0 := by omega
      rw [hexL_lt (by omega)]
      intro b hb
      have : b = UInt8.ofNat (hexd 0).toNat := by simpa [by_, strOfNums] using hb
      rw [this]
      exact hd 0 (by omega)
    | succ n ih =>
      intro u hu b hb
      by_cases h16 : u < 16
      · rw [hexL_lt h16] at hb
        have : b = UInt8.ofNat (hexd u).toNat := by simpa [by_, strOfNums] using hb
        rw [this]
        exact hd u h16
      · rw [hexL_ge h16] at hb
        have hb' : b ∈ by_ (strOfNums (hexL (u / 16))) ∨ b = UInt8.ofNat (hexd (u % 16)).toNat := by
          simp only [by_, strOfNums, List.map_append, List.mem_append] at hb
          simpa [by_, strOfNums] using hb
        rcases hb' with hb' | rfl
        · exact ih (u / 16) (by omega) b hb'
        · exact hd _ (Nat.mod_lt _ (by omega))
  exact h u u (Nat.le_refl _)

theorem key_chars {k : ByteArray} (h : keyB k = true) : ∀ b ∈ by_ k, b ≠ 61 ∧ b ≠ 10 := by
  unfold keyB at h
  simp only [Bool.and_eq_true, List.all_eq_true, List.mem_range] at h
  intro b hb
  obtain ⟨i, hi, he⟩ := List.mem_iff_getElem.1 hb
  have := h.2 i (by rw [← size_by]; exact hi)
  rw [List.getD_eq_getElem?_getD, show k.data.toList[i]? = some b from by rw [List.getElem?_eq_getElem hi, he]] at this
  simp only [Option.getD_some] at this
  constructor
  · rintro rfl; revert this; decide
  · rintro rfl; revert this; decide
theorem val_chars {k : ByteArray} (h : valB k = true) : ∀ b ∈ by_ k, b ≠ 10 := by
  unfold valB at h
  simp only [Bool.and_eq_true, List.all_eq_true, List.mem_range] at h
  intro b hb
  obtain ⟨i, hi, he⟩ := List.mem_iff_getElem.1 hb
  have := h.2 i (by rw [← size_by]; exact hi)
  rw [List.getD_eq_getElem?_getD, show k.data.toList[i]? = some b from by rw [List.getElem?_eq_getElem hi, he]] at this
  simp only [Option.getD_some] at this
  rintro rfl; revert this; decide

theorem by_text (l : List Rw) : by_ (textB l) = by_ (strOfNums (hexL (digN l))) ++ bodyL l ++ [10] := by
  unfold textB
  rw [by_app, by_app, show by_ bNl = [10] from rfl, List.append_assoc, List.append_assoc, ← by_lines]
  rfl
theorem suffix_snoc (a : B8) : hasSuffix (a ++ [10]) [10] = true := by
  unfold hasSuffix
  exact List.isSuffixOf_iff_suffix.2 ⟨a, rfl⟩
theorem trim_snoc (a : B8) : trimSuffix (a ++ [10]) [10] = a := by
  unfold trimSuffix
  rw [suffix_snoc, if_pos rfl, List.length_append, List.length_singleton, Nat.add_sub_cancel]
  exact List.take_left

/-- A state is read as it was written. -/
theorem read_text {l : List Rw} (h : Fine l) (hs : (textB l).size ≤ 8192) : readL (textB l) = (l, 0) := by
  have hc := fine_check h
  have hln : ∀ x ∈ l, ∀ b ∈ lnL x, b ≠ 10 := fun x hx b hb => by
    obtain ⟨h1, h2⟩ := h.key x hx
    unfold lnL at hb
    rcases List.mem_append.1 hb with hb | hb
    · exact (key_chars h1 b hb).2
    · rcases List.mem_cons.1 hb with rfl | hb
      · decide
      · exact val_chars h2 b hb
  unfold readL
  rw [if_neg (by omega), by_text, suffix_snoc, if_neg (by decide), trim_snoc, split_body l _ (hexL_chars _) hln]
  rw [List.drop_succ_cons, List.drop_zero, rowsL_lines l (fun x hx b hb => (key_chars (h.key x hx).1 b hb).1)]
  dsimp only
  rw [if_neg (by simpa using hc), if_neg (by simp)]

/-- What is read is written as it was. -/
theorem read_ok {s : ByteArray} (h : (readL s).2 = 0) : checkL (readL s).1 = 0 ∧ textB (readL s).1 = s := by
  unfold readL at h ⊢
  by_cases h1 : 8192 < s.size
  · rw [if_pos h1] at h; cases h
  rw [if_neg h1] at h ⊢
  by_cases h2 : hasSuffix (by_ s) [10] = false
  · rw [if_pos h2] at h; cases h
  rw [if_neg h2] at h ⊢
  cases hr : rowsL ((splitK [10] 0 (count (trimSuffix (by_ s) [10]) [10]) (trimSuffix (by_ s) [10])).drop 1) with
  | none => rw [hr] at h; cases h
  | some out =>
    rw [hr] at h
    dsimp only at h ⊢
    by_cases h3 : checkL out = 0
    · rw [if_neg (by simpa using h3)] at h ⊢
      by_cases h4 : textB out = s
      · rw [if_neg (by simpa using h4)]
        exact ⟨h3, h4⟩
      · rw [if_pos h4] at h; cases h
    · rw [if_pos h3] at h; exact absurd h h3
theorem read_err {s : ByteArray} (h : (readL s).2 ≠ 0) : (readL s).1 = [] := by
  unfold readL at h ⊢
  by_cases h1 : 8192 < s.size
  · rw [if_pos h1]
  rw [if_neg h1] at h ⊢
  by_cases h2 : hasSuffix (by_ s) [10] = false
  · rw [if_pos h2]
  rw [if_neg h2] at h ⊢
  cases hr : rowsL ((splitK [10] 0 (count (trimSuffix (by_ s) [10]) [10]) (trimSuffix (by_ s) [10])).drop 1) with
  | none => rfl
  | some out =>
    rw [hr] at h
    dsimp only at h ⊢
    by_cases h3 : checkL out = 0
    · rw [if_neg (by simpa using h3)] at h ⊢
      by_cases h4 : textB out = s
      · rw [if_neg (by simpa using h4)] at h; exact absurd rfl h
      · rw [if_pos h4]
    · rw [if_pos h3]
end Go.Proofs.YtjmdebeffpdpcaaGreatDoor

namespace Go.Proofs.YtjmdebeffpdpcaaGreatDoor
open Go.RowKit
open Go.Lib hiding intOf

def nl : ByteArray := ⟨#[10]⟩
/-- What Text and Read read of the memory. -/
structure EnvS (w : World) : Prop where
  tab : w.cell? ⟨5, 15, none⟩ = some (.int .u8 4)
  big : 5 < w.heap.size
  most : ∃ m, w.cell? ⟨0, 0, none⟩ = some (.int .i64 m)
theorem EnvS.below {w w' : World} (h : EnvS w) (hb : Below w.heap.size w w') : EnvS w' := by
  obtain ⟨h1, h2, m, h3⟩ := h
  exact ⟨(hb.cell (p := ⟨5, 15, none⟩) h2).trans h1, Nat.lt_of_lt_of_le h2 hb.size, m, (hb.cell (p := ⟨0, 0, none⟩) (by show 0 < w.heap.size; omega)).trans h3⟩

theorem Suffix_any (s : ByteArray) (w : World) (hs : s.size ≤ 9223372036854775807) : Calls Tryz.prog 24 #[.string s, .string nl] w fun e w' => e = .returned (.bool (hasSuffix (by_ s) [10])) ∧ w = w' :=
  (Any.strings_HasSuffix Tryz.lays100 s nl w hs).mono fun _ _ h => ⟨h.1, h.2.symm⟩
theorem TrimS_any (s : ByteArray) (w : World) (hs : s.size ≤ 9223372036854775807) : Calls Tryz.prog 26 #[.string s, .string nl] w fun e w' => e = .returned (.string (mkB (trimSuffix (by_ s) [10]))) ∧ w = w' :=
  (Any.strings_TrimSuffix Tryz.lays102 s nl w hs).mono fun _ _ h => ⟨h.1, h.2.symm⟩
theorem CutE_any (s : ByteArray) (w : World) (hs : s.size ≤ 100000) (he : EnvS w) :
    Calls Tryz.prog 27 #[.string s, .string ⟨#[61]⟩] w fun e w' => e = .returned (.tuple #[.string (mkB (cutE (by_ s)).1), .string (mkB (cutE (by_ s)).2.1), .bool (cutE (by_ s)).2.2]) ∧ Below w.heap.size w w' := by
  obtain ⟨m, hm⟩ := he.most
  refine (Any.strings_Cut Tryz.lays145 s ⟨#[61]⟩ m w (by omega) hm).mono ?_
  rintro e w' ⟨rfl, n, rfl⟩
  exact ⟨rfl, below_drewN (Below.refl _ _) n⟩

/-- The lines. -/
def linesS (s : ByteArray) : List ByteArray := splitB nl 0 (countB s nl) s
theorem linesS_by (s : ByteArray) : (linesS s).map by_ = splitK [10] 0 (count (by_ s) [10]) (by_ s) := splitB_data nl 0 _ s
theorem splitK_le : ∀ (k : Nat) (s : B8), ∀ x ∈ splitK [10] 0 k s, x.length ≤ s.length
  | 0, s, x, h => by
    have : x = s := by simpa [splitK] using h
    rw [this]; exact Nat.le_refl _
  | k + 1, s, x, h => by
    unfold splitK at h
    split at h
    · have : x = s := by simpa using h
      rw [this]; exact Nat.le_refl _
    · rcases List.mem_cons.1 h with rfl | h
      · rw [List.length_take]; omega
      · have := splitK_le k _ x h
        rw [List.length_drop] at this; omega
theorem linesS_size {s x : ByteArray} (h : x ∈ linesS s) : x.size ≤ s.size := by
  have h1 : by_ x ∈ splitK [10] 0 (count (by_ s) [10]) (by_ s) := by rw [← linesS_by]; exact List.mem_map.2 ⟨x, h, rfl⟩
  have := splitK_le _ _ _ h1
  rw [size_by, size_by] at this
  exact this

theorem Split_any (s : ByteArray) (w : World) (hs : s.size ≤ 100000) (he : EnvS w) :
    Calls Tryz.prog 25 #[.string s, .string nl] w fun e w' => e = .returned (.slice (some ⟨w.heap.size, 0, none⟩) (linesS s).length (linesS s).length) ∧ w' = w.alloc (.cells ((linesS s).map Value.string).toArray 9) := by
  obtain ⟨m, hm⟩ := he.most
  have hl : (linesS s).length = countB s nl + 1 := splitB_all nl (by decide) 0 _ s rfl
  rw [hl]
  exact Any.strings_Split Tryz.lays146 (by kernel_rfl) s nl m w (by omega) hm (by decide)

theorem cutE_le (s : B8) : (cutE s).1.length ≤ s.length ∧ (cutE s).2.1.length ≤ s.length := by
  unfold cutE cut
  split
  · simp only [List.length_take, List.length_drop]; omega
  · simp only [List.length_nil]; omega
theorem linesS_len (s : ByteArray) : (linesS s).length ≤ s.size + 1 := by
  have hl : (linesS s).length = countB s nl + 1 := splitB_all nl (by decide) 0 _ s rfl
  have := countB_le nl (by decide) s.size s (Nat.le_refl _)
  omega

def rowC (x : ByteArray) : Rw := (mkB (cutE (by_ x)).1, mkB (cutE (by_ x)).2.1)
theorem rowsL_cons (x : B8) (r : List B8) : rowsL (x :: r) = if (cutE x).2.2 = true then (rowsL r).map ((mkB (cutE x).1, mkB (cutE x).2.1) :: ·) else none := rfl

theorem rw_info : (Tryz.prog.info? 54).map (fun i => (i.zero, i.size, i.bytes)) = some (some (.agg #[.string ByteArray.empty, .string ByteArray.empty]), 2, 32) := by kernel_rfl

set_option maxRecDepth 100000 in
set_option maxHeartbeats 4000000 in
theorem Read_any (s : ByteArray) (w : World) (hs : s.size ≤ 9223372036854775807) (he : EnvS w) :
    Calls Tryz.prog 12 #[.string s] w (StateP (readL s).1 (readL s).2 w) := by
  have HV := Lib.hid he
  have HSu := Lib.hid (fun W => Suffix_any s W hs)
  have HTr := Lib.hid (fun W => TrimS_any s W hs)
  clear he
  obtain ⟨R, hR⟩ : ∃ R, readL s = R := ⟨_, rfl⟩
  rw [hR]
  unfold readL at hR
  by_cases h1 : 8192 < s.size
  · rw [if_pos h1] at hR
    have HR := Lib.hid hR.symm
    have b1 : decide ((8192 : Int) < (s.size : Int)) = true := by simp; omega
    clear h1 hR
    go_enter Tryz.func12, Tryz.ntmps12
    go_wp2_with fail
    go_ret2
    rw [HR.out]
    exact StateP_nil rfl rfl (Below.refl _ _)
  · rw [if_neg h1] at hR
    have b1 : decide ((8192 : Int) < (s.size : Int)) = false := by simp; omega
    by_cases h2 : hasSuffix (by_ s) [10] = false
    · rw [if_pos h2] at hR
      have HR := Lib.hid hR.symm
      rw [h2] at HSu
      unfold nl at HSu
      clear h1 hR h2
      go_enter Tryz.func12, Tryz.ntmps12
      go_wp2_with (go_at_call 24; go_loud (refine (HSu.out _).mono ?_; rintro e w1 ⟨rfl, rfl⟩))
      go_ret2
      rw [HR.out]
      exact StateP_nil rfl rfl (Below.refl _ _)
    · rw [if_neg h2] at hR
      have h2' : hasSuffix (by_ s) [10] = true := by simpa using h2
      rw [h2'] at HSu
      obtain ⟨T, hT⟩ : ∃ T, mkB (trimSuffix (by_ s) [10]) = T := ⟨_, rfl⟩
      have hbT : trimSuffix (by_ s) [10] = by_ T := by rw [← hT, by_mkB]
      have hTs : T.size ≤ s.size := by
        rw [← hT, size_mkB]
        unfold trimSuffix
        rw [h2', if_pos rfl, List.length_take, size_by]
        omega
      rw [hT] at HTr
      rw [hbT, ← linesS_by] at hR
      have HSp := Lib.hid (fun W hW => Split_any T W (by omega) hW)
      have hLl := linesS_len T
      have HPs := Lib.hid (fun x (hx : x ∈ linesS T) => Nat.le_trans (linesS_size hx) hTs)
      obtain ⟨LB, hLB⟩ : ∃ LB, linesS T = LB := ⟨_, rfl⟩
      rw [hLB] at HSp hR hLl HPs
      have HR := Lib.hid hR.symm
      have hLb : LB.length ≤ 8193 := by omega
      unfold nl at HSu HTr HSp
      obtain ⟨i0, J0, J1, J2, J3⟩ := info_parts rw_info
      clear h2 h2' hT hbT hTs hLB hR hLl
      go_enter Tryz.func12, Tryz.ntmps12
      go_wp2_with (first
        | (go_at_call 24; go_loud (refine (HSu.out _).mono ?_; rintro e w1 ⟨rfl, rfl⟩))
        | (go_at_call 26; go_loud (refine (HTr.out _).mono ?_; rintro e w1 ⟨rfl, rfl⟩))
        | (go_at_call 25; go_loud (refine (HSp.out _ HV.out).mono ?_; rintro e w1 ⟨rfl, hw1⟩; have HW1 := Lib.hid hw1; clear hw1)))
      have hw1 := HW1.out
      have hb1 : Below w.heap.size w w1 := by rw [hw1]; exact (Below.refl _ _).alloc (Nat.le_refl _) _
      have hcl : ∀ i x, LB[i]? = some x → w1.cell? ⟨w.heap.size, i, none⟩ = some (.string x) := fun i x hx => by
        rw [hw1]
        exact cell_of_row _ _ i _ _ _ (heap_alloc_new w _) ▸ (by simp [hx])
      have hlt1 : w.heap.size < w1.heap.size := by rw [hw1]; simp
      have HB1 := Lib.hid hb1
      have HCl := Lib.hid hcl
      clear hw1 hb1 hcl
      go_loopw [4, 5, 6, 7, 8, 9, 22] (fun t4 _ _ _ _ _ i wr => ∃ (j q : Nat) (ol : List Rw) (Ao : Option Addr) (co : Nat), j ≤ LB.length ∧ i = .int .i64 (j : Int) ∧ t4 = .slice Ao q co ∧ q ≤ j ∧ Hid (ol.length = q) ∧ Hid (wr.ownsRow w1.heap.size 54 2 (.slice Ao q co) q (rws ol)) ∧ Hid (rowsL ((LB.map by_).drop 1) = (rowsL ((LB.map by_).drop (max j 1))).map (ol ++ ·)) ∧ Hid (∀ x ∈ ol, x.1.size ≤ 8192 ∧ x.2.size ≤ 8192) ∧ Below w1.heap.size w1 wr) (fun _ _ _ _ _ _ i _ => LB.length - (intOf i).toNat)
      case atStart => exact ⟨0, 0, [], none, 0, by omega, rfl, rfl, by omega, Lib.hid rfl, Lib.hid (World.ownsRow_nil _ _ _ _), Lib.hid (by simp), Lib.hid (fun x hx => absurd hx List.not_mem_nil), Below.refl _ _⟩
      case round =>
        obtain ⟨j, q, ol, Ao, co, hj, rfl, rfl, hq, HQ, HOW, HRe, HZ, hbr⟩ := hrel
        have hj0 : (0 : Int) ≤ (j : Int) := by omega
        by_cases hlt : j < LB.length
        · have hjn : (j : Int) < (LB.length : Int) := by omega
          obtain ⟨x, hx⟩ : ∃ x, LB[j]? = some x := ⟨LB[j], List.getElem?_eq_getElem hlt⟩
          have hc := (hbr.cell (p := ⟨w.heap.size, j, none⟩) hlt1).trans (HCl.out j x hx)
          have HX := Lib.hid hx
          have hxs := HPs.out x (List.mem_of_getElem? hx)
          clear hx
          by_cases hz : j = 0
          · have d0 : ((j : Int) == 0) = true := by simp [hz]
            have d1 : decide ((j : Int) = 0) = true := by simp [hz]
            have HZ0 := Lib.hid hz
            clear hz
            go_wp2_with fail
            go_roundw
            case rel => exact ⟨j + 1, q, ol, Ao, co, by omega, by go_num, rfl, by omega, HQ, HOW, Lib.hid (by rw [show max (j + 1) 1 = max j 1 by have := HZ0.out; omega]; exact HRe.out), HZ, hbr⟩
            case measure => simp [intOf]; omega
          · have d0 : ((j : Int) == 0) = false := by simp [hz]
            have hdr : (LB.map by_).drop (max j 1) = by_ x :: (LB.map by_).drop (max (j + 1) 1) := by
              rw [show max j 1 = j by omega, show max (j + 1) 1 = j + 1 by omega]
              have hl : j < (LB.map by_).length := by rw [List.length_map]; exact hlt
              rw [List.drop_eq_getElem_cons hl]
              congr 1
              rw [List.getElem_map]
              exact congrArg by_ (Option.some.inj ((List.getElem?_eq_getElem hlt).symm.trans HX.out))
            have HRe2 := Lib.hid (show rowsL ((LB.map by_).drop 1) = (rowsL (by_ x :: (LB.map by_).drop (max (j + 1) 1))).map (ol ++ ·) by rw [← hdr]; exact HRe.out)
            have hcl := cutE_le (by_ x)
            rw [size_by] at hcl
            have hcu := fun W hW => CutE_any x W (by omega) hW
            obtain ⟨⟨kp, vp, ok⟩, hcc⟩ : ∃ r, cutE (by_ x) = r := ⟨_, rfl⟩
            simp only [hcc] at hcu hcl
            have HCc := Lib.hid hcc
            have HCu := Lib.hid hcu
            have hks : (mkB kp).size ≤ 8192 := by rw [size_mkB]; omega
            have hvs : (mkB vp).size ≤ 8192 := by rw [size_mkB]; omega
            have HBr := Lib.hid (HB1.out.trans (hbr.mono HB1.out.size))
            clear hz hdr hcc hcu hcl HRe hxs
            cases ok with
            | true =>
              have HRe3 := Lib.hid (show rowsL ((LB.map by_).drop 1) = (rowsL ((LB.map by_).drop (max (j + 1) 1))).map ((ol ++ [(mkB kp, mkB vp)]) ++ ·) by
                rw [HRe2.out, rowsL_cons, HCc.out, if_pos rfl]
                cases rowsL ((LB.map by_).drop (max (j + 1) 1)) <;> simp)
              obtain ⟨K, hK⟩ : ∃ K, mkB kp = K := ⟨_, rfl⟩
              obtain ⟨V, hV⟩ : ∃ V, mkB vp = V := ⟨_, rfl⟩
              rw [hK, hV] at HCu HRe3
              rw [hK] at hks
              rw [hV] at hvs
              have HZ2 := Lib.hid (show ∀ y ∈ ol ++ [(K, V)], y.1.size ≤ 8192 ∧ y.2.size ≤ 8192 from fun y hy => by
                rcases List.mem_append.1 hy with hy | hy
                · exact HZ.out y hy
                · have : y = (K, V) := by simpa using hy
                  subst this
                  exact ⟨hks, hvs⟩)
              have HRow := Lib.hid (show rws ol ++ (#[Value.string K, .string V] : Array Value).toList = rws (ol ++ [(K, V)]) by rw [rws, rws, rowsV_snoc]; rfl)
              clear hK hV HRe2 HZ
              go_wp2_with (first
                | (go_at_call 27; go_loud (refine (HCu.out _ (HV.out.below HBr.out)).mono ?_; rintro e w5 ⟨rfl, hb5⟩; have hbr5 := hbr.trans (hb5.mono hbr.size); have HO5 := Lib.hid (own_below HOW.out hb5 (Nat.le_refl _))))
                | (at_builtin; go_loud (refine wpList_append_one w5 #[.string K, .string V] rfl (.tmp 37) (.tmp 41) 32 rfl w1.heap.size 54 i0 (.agg #[.string ByteArray.empty, .string ByteArray.empty]) 2 32 Tryz.underlying32 J0 J1 J2 J3 rfl (by decide) (.slice Ao q co) q _ rfl HO5.out rfl rfl (by simp [Value.oneCell']) (by omega) (by decide) hbr5.size ?_; intro g3 cap3 w6 hv6 hg6 hat6 hlt6)))
              have hv7 := hv6
              rw [HRow.out] at hv7
              have hb6 : Below w1.heap.size w1 w6 := below_app hbr5 hbr5.size HO5.out (Nat.le_refl _) hg6
              go_roundw
              case rel => exact ⟨j + 1, q + 1, ol ++ [(K, V)], some ⟨g3, 0, none⟩, cap3, by omega, by go_num, rfl, by omega, Lib.hid (by rw [List.length_append, HQ.out]; rfl), Lib.hid hv7, HRe3, HZ2, hb6⟩
              case measure => simp [intOf]; omega
            | false =>
              have HR2 := Lib.hid (show R = ([], 5) by
                rw [HR.out, HRe2.out, rowsL_cons, HCc.out, if_neg (show ¬ (kp, vp, false).2.2 = true from Bool.false_ne_true)]
                rfl)
              clear HRe2
              go_wp2_with (go_at_call 27; go_loud (refine (HCu.out _ (HV.out.below HBr.out)).mono ?_; rintro e w5 ⟨rfl, hb5⟩))
              go_ret2
              rw [HR2.out]
              exact StateP_nil rfl rfl (bstep HBr.out hb5)
        · obtain rfl : LB.length = j := by omega
          have hem : (LB.map by_).drop (max LB.length 1) = [] := List.drop_eq_nil_of_le (by rw [List.length_map]; omega)
          have HR2 := Lib.hid (show R = if checkL ol ≠ 0 then ([], checkL ol) else if textB ol ≠ s then ([], 13) else (ol, 0) by
            rw [HR.out, HRe.out, hem]
            simp only [rowsL, Option.map_some, List.append_nil])
          have HBr := Lib.hid (HB1.out.trans (hbr.mono HB1.out.size))
          have hE := HV.out.below HBr.out
          have HTx := Lib.hid (Text_any Ao q co ol _ (Sl_rows rwV_len HOW.out HQ.out (by decide)) HQ.out (fun x hx => by have := HZ.out x hx; unfold maxLen; omega) (by unfold maxLen; omega) hE.tab hE.big)
          clear hem hE HRe
          by_cases hc : checkL ol = 0
          · have HC := Lib.hid hc
            have htl : textL ol = textB ol := by unfold textL; rw [if_pos hc]
            unfold TextP at HTx
            rw [htl, hc] at HTx
            obtain ⟨U, hU⟩ : ∃ U, textB ol = U := ⟨_, rfl⟩
            rw [hU] at HTx HR2
            by_cases hus : U = s
            · have HR3 := Lib.hid (show R = (ol, 0) by rw [HR2.out, if_neg (by simpa using hc), if_neg (by simpa using hus)])
              have e1 : (U.toList == s.toList) = true := by rw [hus]; simp
              have e2 : (U.toList != s.toList) = false := by rw [hus]; simp
              have e3 : U.toList = s.toList := by rw [hus]
              have HU := Lib.hid hus
              have HFi := Lib.hid (fine_of HC.out)
              clear hc htl hU hus HR2
              go_wp2_with (go_at_call 11; go_loud (refine HTx.out.mono ?_; rintro e w5 ⟨rfl, hb5⟩))
              go_ret2
              rw [HR3.out]
              have hq := HQ.out
              subst hq
              exact ⟨Ao, co, rfl, own_mono (own_below HOW.out hb5 (Nat.le_refl _)) HB1.out.size, bstep HBr.out hb5⟩
            · have HR3 := Lib.hid (show R = ([], 13) by rw [HR2.out, if_neg (by simpa using hc), if_pos hus])
              have hne : ¬ U.toList = s.toList := fun e => hus (ba_ext e)
              have e1 : (U.toList == s.toList) = false := by simpa using hne
              have e2 : (U.toList != s.toList) = true := by simpa using hne
              clear hc htl hU hus HR2
              go_wp2_with (go_at_call 11; go_loud (refine HTx.out.mono ?_; rintro e w5 ⟨rfl, hb5⟩))
              go_ret2
              rw [HR3.out]
              exact StateP_nil rfl rfl (bstep HBr.out hb5)
          · have HR3 := Lib.hid (show R = ([], checkL ol) by rw [HR2.out, if_pos hc])
            unfold TextP at HTx
            obtain ⟨ce, hce⟩ : ∃ ce, checkL ol = ce := ⟨_, rfl⟩
            rw [hce] at HTx HR3 hc
            have hcb : (ce != 0) = true := by simpa using hc
            clear hc hce HR2
            go_wp2_with (go_at_call 11; go_loud (refine HTx.out.mono ?_; rintro e w5 ⟨rfl, hb5⟩))
            go_ret2
            rw [HR3.out]
            exact StateP_nil rfl rfl (bstep HBr.out hb5)
end Go.Proofs.YtjmdebeffpdpcaaGreatDoor
