/- Plain laws: commands, their texts, and that each leads back to the other. -/
import Derived.Test.YtdlifdmnfbjokaaDoorRA1
import Derived.Test.YtdlifdmnfbjokaaDoorCP0
import Derived.Lib.Split
import Derived.Lib.SplitLaws
import Derived.Lib.IndexMore
import Derived.Lib.ItoaLen
import Derived.Lib.AtoiAllCases
namespace Go.Proofs.YtdlifdmnfbjokaaDoor
open Go.RowKit
open Go.Lib hiding intOf

theorem index_at (c : UInt8) : ∀ (a r : L8), (∀ b ∈ a, b ≠ c) → index (a ++ c :: r) [c] = (a.length : Int)
  | [], r, _ => by simp [index]
  | b :: a, r, h => by
    have hb : b ≠ c := h b (by simp)
    have ih := index_at c a r (fun x hx => h x (by simp [hx]))
    rw [List.cons_append, index, ih]
    have h1 : List.isPrefixOf [c] (b :: (a ++ c :: r)) = false := by
      simp only [List.isPrefixOf, Bool.and_true]
      simp [Ne.symm hb]
    rw [h1, List.length_cons]
    have h2 : ((a.length : Int) == -1) = false := by rw [beq_eq_false_iff_ne]; omega
    simp [h2]
theorem count_app (c : UInt8) (a r : L8) (h : ∀ b ∈ a, b ≠ c) : count (a ++ c :: r) [c] = 1 + count r [c] := by
  rw [count_one, count_one, List.count_append, List.count_cons_self, List.count_eq_zero.2 (fun hc => h c hc rfl)]
  omega
theorem count_none (c : UInt8) (a : L8) (h : ∀ b ∈ a, b ≠ c) : count a [c] = 0 := by
  rw [count_one]
  exact List.count_eq_zero.2 (fun hc => h c hc rfl)

/-- A text split at each letter c. -/
def spl (c : UInt8) (s : L8) : List L8 := splitK [c] 0 (count s [c]) s
theorem spl_last {c : UInt8} {a : L8} (h : ∀ b ∈ a, b ≠ c) : spl c a = [a] := by
  unfold spl; rw [count_none c a h]; rfl
theorem spl_more {c : UInt8} {a : L8} (r : L8) (h : ∀ b ∈ a, b ≠ c) : spl c (a ++ c :: r) = a :: spl c r := by
  unfold spl
  rw [count_app c a r h, Nat.add_comm 1, splitK, index_at c a r h]
  have h2 : ((a.length : Int) == -1) = false := by rw [beq_eq_false_iff_ne]; omega
  rw [h2]
  have e1 : (a ++ c :: r).take a.length = a := List.take_left
  have e2 : (a ++ c :: r).drop (a.length + 1) = r := by
    rw [show a ++ c :: r = (a ++ [c]) ++ r by simp]
    exact List.drop_left' (by simp)
  simp only [Int.toNat_natCast, Nat.add_zero, List.length_singleton, e1, e2]
  rfl
theorem first (c : UInt8) : ∀ s : L8, (∀ b ∈ s, b ≠ c) ∨ ∃ a r, s = a ++ c :: r ∧ ∀ b ∈ a, b ≠ c
  | [] => .inl (fun b hb => by simp at hb)
  | x :: s => by
    by_cases hx : x = c
    · exact .inr ⟨[], s, by rw [hx]; rfl, fun b hb => by simp at hb⟩
    rcases first c s with h | ⟨a, r, rfl, h⟩
    · left
      intro b hb
      rcases List.mem_cons.1 hb with rfl | hb
      · exact hx
      · exact h b hb
    · right
      refine ⟨x :: a, r, rfl, fun b hb => ?_⟩
      rcases List.mem_cons.1 hb with rfl | hb
      · exact hx
      · exact h b hb
def joinL (c : UInt8) : List L8 → L8
  | [] => []
  | a :: r => match r with
    | [] => a
    | _ :: _ => a ++ c :: joinL c r
theorem joinL_cons {c : UInt8} {a : L8} {r : List L8} (h : r ≠ []) : joinL c (a :: r) = a ++ c :: joinL c r := by
  cases r with
  | nil => exact absurd rfl h
  | cons x r => rfl
theorem spl_ne (c : UInt8) (s : L8) : spl c s ≠ [] := by
  rcases first c s with h | ⟨a, r, rfl, h⟩
  · rw [spl_last h]; simp
  · rw [spl_more r h]; simp
theorem join_spl (c : UInt8) : ∀ (n : Nat) (s : L8), s.length ≤ n → joinL c (spl c s) = s
  | n, s, hn => by
    rcases first c s with h | ⟨a, r, rfl, h⟩
    · rw [spl_last h]; rfl
    · cases n with
      | zero => simp at hn
      | succ n =>
        rw [spl_more r h, joinL_cons (spl_ne c r), join_spl c n r (by simp at hn; omega)]

/-- The parts of a line. -/
def sp : ByteArray := ⟨#[32]⟩
def partsB (s : ByteArray) : List ByteArray := splitB sp 0 (countB s sp) s
theorem parts_bl (s : ByteArray) : (partsB s).map bl = spl 32 (bl s) := splitB_data sp 0 _ s
theorem map_bl_inj : ∀ {l m : List ByteArray}, l.map bl = m.map bl → l = m
  | [], [], _ => rfl
  | [], _ :: _, h => by simp at h
  | _ :: _, [], h => by simp at h
  | x :: l, y :: m, h => by
    rw [List.map_cons, List.map_cons, List.cons.injEq] at h
    rw [bl_inj h.1, map_bl_inj h.2]
theorem parts_eq {s : ByteArray} {l : List ByteArray} (h : spl 32 (bl s) = l.map bl) : partsB s = l := map_bl_inj (by rw [parts_bl, h])
theorem splitK_le (c : UInt8) : ∀ (k : Nat) (s : L8), ∀ x ∈ splitK [c] 0 k s, x.length ≤ s.length
  | 0, s, x, h => by
    have : x = s := by simpa [splitK] using h
    rw [this]; exact Nat.le_refl _
  | k + 1, s, x, h => by
    unfold splitK at h
    split at h
    · have : x = s := by simpa using h
      rw [this]; exact Nat.le_refl _
    · rcases List.mem_cons.1 h with rfl | h
      · rw [List.length_take]; omega
      · have := splitK_le c k _ x h
        rw [List.length_drop] at this; omega
theorem parts_size {s x : ByteArray} (h : x ∈ partsB s) : x.size ≤ s.size := by
  have h1 : bl x ∈ splitK [32] 0 (count (bl s) [32]) (bl s) := by
    have := parts_bl s
    unfold spl at this
    rw [← this]; exact List.mem_map.2 ⟨x, h, rfl⟩
  have := splitK_le _ _ _ _ h1
  rw [size_bl, size_bl] at this
  exact this
theorem parts_len (s : ByteArray) : (partsB s).length = countB s sp + 1 := splitB_all sp (by decide) 0 _ s rfl
theorem parts_len_le (s : ByteArray) : (partsB s).length ≤ s.size + 1 := by
  rw [parts_len]
  have := countB_le sp (by decide) s.size s (Nat.le_refl _)
  omega

theorem vbs_blank : ∀ x ∈ vbs, ∀ b ∈ bl x, b ≠ 32 := by decide
theorem vbs_small : ∀ x ∈ vbs, x.size ≤ 7 := by decide

theorem name_blank {s : ByteArray} (h : nameB s = true) : ∀ b ∈ bl s, b ≠ 32 := by
  unfold nameB at h
  simp only [Bool.and_eq_true, List.all_eq_true, List.mem_range] at h
  intro b hb e
  obtain ⟨i, hi, he⟩ := List.mem_iff_getElem.1 hb
  have := h.2 i (by rw [← size_bl]; exact hi)
  rw [List.getD_eq_getElem?_getD, show s.data.toList[i]? = some b from by rw [List.getElem?_eq_getElem hi, he]] at this
  subst e
  simp only [Option.getD_some] at this
  unfold letB at this
  simp at this
theorem name_size {s : ByteArray} (h : nameB s = true) : 1 ≤ s.size ∧ s.size ≤ 8 := by
  unfold nameB at h
  simp only [Bool.and_eq_true, decide_eq_true_eq] at h
  exact h.1

theorem itoa_blank (a : Int) : ∀ b ∈ itoa a, b ≠ 32 := by
  have hd : ∀ n, ∀ b ∈ decDigits n, b ≠ 32 := fun n b hb e => by
    have := decDigits_dg n b hb
    subst e
    exact absurd this (by decide)
  unfold itoa
  split
  · intro b hb
    rcases List.mem_cons.1 hb with rfl | hb
    · decide
    · exact hd _ b hb
  · exact hd _
theorem atoi_itoa (a : Int) : atoi (itoa a) = some a := by
  by_cases h : a < 0
  · obtain ⟨k, rfl⟩ : ∃ k : Nat, a = -(k : Int) := ⟨a.natAbs, by omega⟩
    rw [itoa_neg k (by omega)]
    have e : atoi (45 :: decDigits k) = (decNat (decDigits k)).map fun (m : Nat) => -(m : Int) := by
      rw [atoi, if_pos (show ((45 : UInt8) == 45) = true by decide)]
    rw [e, decNat_decDigits]
    rfl
  · obtain ⟨k, rfl⟩ : ∃ k : Nat, a = (k : Int) := ⟨a.toNat, by omega⟩
    rw [itoa_nonneg, atoi_decDigits]
theorem itoa_len6 {a : Int} (h0 : 0 ≤ a) (h1 : a ≤ 900000) : (itoa a).length ≤ 6 := by
  unfold itoa
  rw [if_neg (by omega)]
  exact nDigits_le6 (n := a.toNat) (by omega)

/-- A number as Parse reads it. -/
def numP (x : ByteArray) : Option Int := match atoiAll (bl x) with
  | .ok n => if n < 0 ∨ 6 < x.size ∨ mk (itoa n) ≠ x then none else some n
  | _ => none
theorem numP_itoa {a : Int} (h0 : 0 ≤ a) (h1 : a ≤ 900000) : numP (mk (itoa a)) = some a := by
  have hl := itoa_len6 h0 h1
  unfold numP
  rw [bl_mk, atoiAll_short _ (by omega), atoi_itoa]
  show (if a < 0 ∨ 6 < (mk (itoa a)).size ∨ mk (itoa a) ≠ mk (itoa a) then none else some a) = some a
  rw [if_neg]
  rw [size_mk]
  rintro (h | h | h)
  · omega
  · omega
  · exact h rfl
theorem numP_some {x : ByteArray} {n : Int} (h : numP x = some n) : 0 ≤ n ∧ x = mk (itoa n) := by
  unfold numP at h
  rcases e : atoiAll (bl x) with v | _ | _
  · rw [e] at h
    dsimp only at h
    by_cases hc : v < 0 ∨ 6 < x.size ∨ mk (itoa v) ≠ x
    · rw [if_pos hc] at h; cases h
    · rw [if_neg hc] at h
      cases h
      refine ⟨by omega, ?_⟩
      by_cases hx : mk (itoa n) = x
      · exact hx.symm
      · exact absurd (.inr (.inr hx)) hc
  · rw [e] at h; cases h
  · rw [e] at h; cases h

def tailB (c : Cm) : ByteArray := if numV (vIx c.verb) = true then sp ++ mk (itoa c.n) else if fixV (vIx c.verb) = true then sp ++ c.fix else .empty
def headB (c : Cm) : ByteArray := c.verb ++ sp ++ c.call
def printB (c : Cm) : ByteArray := headB c ++ tailB c
def printC (c : Cm) : ByteArray × Int := if chkC c = 0 then (printB c, 0) else (.empty, chkC c)
def finC (c : Cm) : Cm × Int := if chkC c = 0 then (c, 0) else (cm0, chkC c)
def pk (l : List ByteArray) (i : Nat) : ByteArray := l.getD i .empty
def cntV (v : Int) : Nat := if numV v = true ∨ fixV v = true then 3 else 2
def parseL (l : List ByteArray) : Cm × Int :=
  if vIx (pk l 0) < 0 ∨ l.length ≠ cntV (vIx (pk l 0)) then (cm0, 5)
  else if numV (vIx (pk l 0)) = true then
    match numP (pk l 2) with
    | none => (cm0, 5)
    | some n => finC ⟨pk l 0, pk l 1, n, .empty⟩
  else if fixV (vIx (pk l 0)) = true then finC ⟨pk l 0, pk l 1, 0, pk l 2⟩
  else finC ⟨pk l 0, pk l 1, 0, .empty⟩
def parseC (s : ByteArray) : Cm × Int := parseL (partsB s)

/-- A command that is accepted. -/
structure Good (c : Cm) : Prop where
  v : 0 ≤ vIx c.verb
  call : nameB c.call = true
  fix : fixV (vIx c.verb) = true → nameB c.fix = true
  nofix : fixV (vIx c.verb) = false → c.fix = .empty
  non : numV (vIx c.verb) = false → c.n = 0
  n0 : numV (vIx c.verb) = true → 0 ≤ c.n ∧ c.n ≤ mostV (vIx c.verb)
theorem good_of {c : Cm} (h : chkC c = 0) : Good c := by
  unfold chkC at h
  by_cases h1 : vIx c.verb < 0
  · rw [if_pos h1] at h; cases h
  rw [if_neg h1] at h
  by_cases h2 : nameB c.call = false ∨ (fixV (vIx c.verb) = true ∧ nameB c.fix = false)
  · rw [if_pos h2] at h; cases h
  rw [if_neg h2] at h
  by_cases h3 : (fixV (vIx c.verb) = false ∧ c.fix ≠ .empty) ∨ (numV (vIx c.verb) = false ∧ c.n ≠ 0)
  · rw [if_pos h3] at h; cases h
  rw [if_neg h3] at h
  by_cases h4 : numV (vIx c.verb) = true ∧ (c.n < 0 ∨ mostV (vIx c.verb) < c.n)
  · rw [if_pos h4] at h; cases h
  refine ⟨by omega, ?_, fun hf => ?_, fun hf => ?_, fun hn => ?_, fun hn => ?_⟩
  · cases hc : nameB c.call with
    | true => rfl
    | false => exact absurd (.inl hc) h2
  · cases hc : nameB c.fix with
    | true => rfl
    | false => exact absurd (.inr ⟨hf, hc⟩) h2
  · by_cases he : c.fix = .empty
    · exact he
    · exact absurd (.inl ⟨hf, he⟩) h3
  · by_cases he : c.n = 0
    · exact he
    · exact absurd (.inr ⟨hn, he⟩) h3
  · have : ¬ (c.n < 0 ∨ mostV (vIx c.verb) < c.n) := fun h => h4 ⟨hn, h⟩
    omega
theorem most_le (v : Int) : mostV v ≤ 60000 := by
  unfold mostV
  split
  · omega
  · split <;> omega
theorem Good.printC {c : Cm} (h : chkC c = 0) : printC c = (printB c, 0) := by unfold YtdlifdmnfbjokaaDoor.printC; rw [if_pos h]
theorem bl_sp : bl sp = [32] := rfl
theorem bl_empty : bl ByteArray.empty = [] := rfl
theorem parts3 {a b c : ByteArray} (ha : ∀ x ∈ bl a, x ≠ 32) (hb : ∀ x ∈ bl b, x ≠ 32) (hc : ∀ x ∈ bl c, x ≠ 32) : partsB (a ++ sp ++ b ++ (sp ++ c)) = [a, b, c] := by
  refine parts_eq ?_
  rw [bl_append, bl_append, bl_append, bl_append, bl_sp]
  rw [show bl a ++ [32] ++ bl b ++ ([32] ++ bl c) = bl a ++ 32 :: (bl b ++ 32 :: bl c) by simp]
  rw [spl_more _ ha, spl_more _ hb, spl_last hc]
  rfl
theorem app_empty (a : ByteArray) : a ++ ByteArray.empty = a := bl_inj (by rw [bl_append, bl_empty, List.append_nil])
theorem parts2 {a b : ByteArray} (ha : ∀ x ∈ bl a, x ≠ 32) (hb : ∀ x ∈ bl b, x ≠ 32) : partsB (a ++ sp ++ b ++ ByteArray.empty) = [a, b] := by
  refine parts_eq ?_
  rw [app_empty, bl_append, bl_append, bl_sp]
  rw [show bl a ++ [32] ++ bl b = bl a ++ 32 :: bl b by simp]
  rw [spl_more _ ha, spl_last hb]
  rfl
/-- A command is parsed as it was printed. -/
theorem parse_print {c : Cm} (h : chkC c = 0) : parseC (printB c) = (c, 0) := by
  have g := good_of h
  obtain ⟨verb, call, n, fix⟩ := c
  have hv := vbs_blank _ (vIx_mem g.v)
  have hc := name_blank g.call
  have hm := most_le (vIx verb)
  cases hn : numV (vIx verb) with
  | true =>
    have hf : fixV (vIx verb) = false := by
      unfold numV at hn; unfold fixV
      simp only [decide_eq_true_eq] at hn
      simp; omega
    have hfx : fix = .empty := g.nofix hf
    have hnn := g.n0 hn
    have hnum : numP (mk (itoa n)) = some n := numP_itoa hnn.1 (by have := hnn.2; show n ≤ 900000; dsimp only at this; omega)
    have e : printB ⟨verb, call, n, fix⟩ = verb ++ sp ++ call ++ (sp ++ mk (itoa n)) := by
      unfold printB headB tailB; rw [if_pos hn]
    have ep : partsB (printB ⟨verb, call, n, fix⟩) = [verb, call, mk (itoa n)] := by
      rw [e]; exact parts3 hv hc (by rw [bl_mk]; exact itoa_blank n)
    unfold parseC
    rw [ep]
    unfold parseL
    have p0 : pk [verb, call, mk (itoa n)] 0 = verb := rfl
    have p1 : pk [verb, call, mk (itoa n)] 1 = call := rfl
    have p2 : pk [verb, call, mk (itoa n)] 2 = mk (itoa n) := rfl
    have pc : cntV (vIx verb) = 3 := by unfold cntV; rw [if_pos (.inl hn)]
    have gv : 0 ≤ vIx verb := g.v
    rw [p0, p1, p2, hnum, pc, if_neg (by rintro (h | h) <;> first | omega | exact h rfl), if_pos hn]
    subst hfx
    show finC ⟨verb, call, n, .empty⟩ = _
    unfold finC; rw [if_pos h]
  | false =>
    have hn0 : n = 0 := g.non hn
    have gv : 0 ≤ vIx verb := g.v
    have hnt : ¬ numV (vIx verb) = true := by rw [hn]; decide
    subst hn0
    cases hf : fixV (vIx verb) with
    | true =>
      have e : printB ⟨verb, call, 0, fix⟩ = verb ++ sp ++ call ++ (sp ++ fix) := by
        unfold printB headB tailB; rw [if_neg hnt, if_pos hf]
      have ep : partsB (printB ⟨verb, call, 0, fix⟩) = [verb, call, fix] := by
        rw [e]; exact parts3 hv hc (name_blank (g.fix hf))
      unfold parseC
      rw [ep]
      unfold parseL
      have p0 : pk [verb, call, fix] 0 = verb := rfl
      have p1 : pk [verb, call, fix] 1 = call := rfl
      have p2 : pk [verb, call, fix] 2 = fix := rfl
      have pc : cntV (vIx verb) = 3 := by unfold cntV; rw [if_pos (.inr hf)]
      rw [p0, p1, p2, pc, if_neg (by rintro (h | h) <;> first | omega | exact h rfl), if_neg hnt, if_pos hf]
      unfold finC; rw [if_pos h]
    | false =>
      have hft : ¬ fixV (vIx verb) = true := by rw [hf]; decide
      have hfx : fix = .empty := g.nofix hf
      subst hfx
      have e : printB ⟨verb, call, 0, .empty⟩ = verb ++ sp ++ call ++ .empty := by
        unfold printB headB tailB; rw [if_neg hnt, if_neg hft]
      have ep : partsB (printB ⟨verb, call, 0, .empty⟩) = [verb, call] := by
        rw [e]; exact parts2 hv hc
      unfold parseC
      rw [ep]
      unfold parseL
      have p0 : pk [verb, call] 0 = verb := rfl
      have p1 : pk [verb, call] 1 = call := rfl
      have pc : cntV (vIx verb) = 2 := by
        unfold cntV; rw [if_neg]; rintro (h | h)
        · exact hnt h
        · exact hft h
      rw [p0, p1, pc, if_neg (by rintro (h | h) <;> first | omega | exact h rfl), if_neg hnt, if_neg hft]
      unfold finC; rw [if_pos h]
theorem fin_ok {c d : Cm} (h : finC c = (d, 0)) : c = d ∧ chkC d = 0 := by
  unfold finC at h
  by_cases hc : chkC c = 0
  · rw [if_pos hc] at h
    cases h
    exact ⟨rfl, hc⟩
  · rw [if_neg hc] at h
    have := congrArg Prod.snd h
    exact absurd this hc
theorem list3 {l : List ByteArray} (h : l.length = 3) : l = [pk l 0, pk l 1, pk l 2] := by
  match l, h with
  | [a, b, c], _ => rfl
theorem list2 {l : List ByteArray} (h : l.length = 2) : l = [pk l 0, pk l 1] := by
  match l, h with
  | [a, b], _ => rfl
theorem join3 {s : ByteArray} (h : (partsB s).length = 3) : s = pk (partsB s) 0 ++ sp ++ pk (partsB s) 1 ++ (sp ++ pk (partsB s) 2) := by
  have h1 := list3 h
  have h2 := join_spl 32 _ (bl s) (Nat.le_refl _)
  rw [← parts_bl, h1] at h2
  refine bl_inj ?_
  rw [bl_append, bl_append, bl_append, bl_append, bl_sp]
  rw [← h2]
  simp [joinL, pk]
theorem join2 {s : ByteArray} (h : (partsB s).length = 2) : s = pk (partsB s) 0 ++ sp ++ pk (partsB s) 1 ++ ByteArray.empty := by
  have h1 := list2 h
  have h2 := join_spl 32 _ (bl s) (Nat.le_refl _)
  rw [← parts_bl, h1] at h2
  refine bl_inj ?_
  rw [app_empty, bl_append, bl_append, bl_sp]
  rw [← h2]
  simp [joinL, pk]
/-- A command is printed as it was parsed. -/
theorem print_parse {s : ByteArray} {d : Cm} (h : parseC s = (d, 0)) : chkC d = 0 ∧ printB d = s := by
  unfold parseC parseL at h
  have j3 := @join3 s
  have j2 := @join2 s
  generalize partsB s = l at h j3 j2
  by_cases h1 : vIx (pk l 0) < 0 ∨ l.length ≠ cntV (vIx (pk l 0))
  · rw [if_pos h1] at h; cases h
  rw [if_neg h1] at h
  have h2 : l.length = cntV (vIx (pk l 0)) := by omega
  unfold cntV at h2
  by_cases hn : numV (vIx (pk l 0)) = true
  · rw [if_pos hn] at h
    rw [if_pos (.inl hn)] at h2
    cases hp : numP (pk l 2) with
    | none => rw [hp] at h; cases h
    | some n =>
      rw [hp] at h
      obtain ⟨rfl, hc⟩ := fin_ok h
      refine ⟨hc, ?_⟩
      unfold printB headB tailB
      dsimp only
      rw [if_pos hn, ← (numP_some hp).2]
      exact (j3 h2).symm
  · rw [if_neg hn] at h
    by_cases hf : fixV (vIx (pk l 0)) = true
    · rw [if_pos hf] at h
      rw [if_pos (.inr hf)] at h2
      obtain ⟨rfl, hc⟩ := fin_ok h
      refine ⟨hc, ?_⟩
      unfold printB headB tailB
      dsimp only
      rw [if_neg hn, if_pos hf]
      exact (j3 h2).symm
    · rw [if_neg hf] at h
      rw [if_neg (by rintro (h | h) <;> first | exact hn h | exact hf h)] at h2
      obtain ⟨rfl, hc⟩ := fin_ok h
      refine ⟨hc, ?_⟩
      unfold printB headB tailB
      dsimp only
      rw [if_neg hn, if_neg hf]
      exact (j2 h2).symm
theorem fin_err {c : Cm} (h : (finC c).2 ≠ 0) : (finC c).1 = cm0 := by
  unfold finC at h ⊢
  by_cases hc : chkC c = 0
  · rw [if_pos hc] at h; exact absurd rfl h
  · rw [if_neg hc]
/-- What is refused is nothing. -/
theorem parse_err {s : ByteArray} (h : (parseC s).2 ≠ 0) : (parseC s).1 = cm0 := by
  unfold parseC parseL at h ⊢
  generalize partsB s = l at h ⊢
  by_cases h1 : vIx (pk l 0) < 0 ∨ l.length ≠ cntV (vIx (pk l 0))
  · rw [if_pos h1]
  rw [if_neg h1] at h ⊢
  by_cases hn : numV (vIx (pk l 0)) = true
  · rw [if_pos hn] at h ⊢
    cases hp : numP (pk l 2) with
    | none => rfl
    | some n => rw [hp] at h; exact fin_err h
  · rw [if_neg hn] at h ⊢
    by_cases hf : fixV (vIx (pk l 0)) = true
    · rw [if_pos hf] at h ⊢; exact fin_err h
    · rw [if_neg hf] at h ⊢; exact fin_err h

/-- The fixed example. -/
def dd9000 : ByteArray := ⟨#[57, 48, 48, 48]⟩
def cx : Cm := ⟨⟨#[104, 101, 105, 103, 104, 116]⟩, ⟨#[65, 66, 49]⟩, 9000, .empty⟩
def sx : ByteArray := ⟨#[104, 101, 105, 103, 104, 116, 32, 65, 66, 49, 32, 57, 48, 48, 48]⟩
theorem itoa9000 : itoa 9000 = [57, 48, 48, 48] := by
  rw [show (9000 : Int) = ((9000 : Nat) : Int) from rfl, itoa_nonneg, decDigits_big (by decide), decDigits_big (by decide), decDigits_big (by decide), decDigits_one (by decide)]
  decide
theorem chkx : chkC cx = 0 := by decide
theorem printx : printB cx = sx := by
  have e : tailB cx = sp ++ mk (itoa 9000) := rfl
  unfold printB
  rw [e, itoa9000]
  decide
theorem parsex : parseC sx = (cx, 0) := by rw [← printx]; exact parse_print chkx
end Go.Proofs.YtdlifdmnfbjokaaDoor
