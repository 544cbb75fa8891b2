/- Plain laws: a key that is cut again, and growing by a number and its opposite. -/
import Derived.Test.YtbbklfjgojjlhaaDoorQ1
import Derived.Test.YtbbklfjgojjlhaaDoorSB7
import Derived.Lib.AtoiTie
namespace Go.Proofs.YtbbklfjgojjlhaaDoor
open Go.RowKit
open Go.Lib hiding intOf

theorem index_sp : ∀ (a r : List UInt8), (∀ b ∈ a, b ≠ 32) → index (a ++ 32 :: r) [32] = (a.length : Int)
  | [], r, _ => by simp [index]
  | b :: a, r, h => by
    have hb : b ≠ 32 := h b (by simp)
    have ih := index_sp a r (fun x hx => h x (by simp [hx]))
    rw [List.cons_append, index, ih]
    have h1 : List.isPrefixOf [32] (b :: (a ++ 32 :: r)) = false := by
      simp only [List.isPrefixOf, Bool.and_true]
      simp [Ne.symm hb]
    rw [h1, List.length_cons]
    have h2 : ((a.length : Int) == -1) = false := by rw [beq_eq_false_iff_ne]; omega
    simp [h2]
theorem index_no : ∀ (a : List UInt8), (∀ b ∈ a, b ≠ 32) → index a [32] = -1
  | [], _ => by simp [index]
  | b :: a, h => by
    have hb : b ≠ 32 := h b (by simp)
    have ih := index_no a (fun x hx => h x (by simp [hx]))
    rw [index, ih]
    have h1 : List.isPrefixOf [32] (b :: a) = false := by
      simp only [List.isPrefixOf, Bool.and_true]
      simp [Ne.symm hb]
    rw [h1]
    simp
theorem index_has : ∀ (a : List UInt8), (∃ b ∈ a, b = 32) → 0 ≤ index a [32]
  | [], h => by obtain ⟨b, hb, _⟩ := h; cases hb
  | b :: a, h => by
    rw [index]
    by_cases hb : b = 32
    · subst hb
      simp [List.isPrefixOf]
    · have ih := index_has a (by
        obtain ⟨x, hx, rfl⟩ := h
        rcases List.mem_cons.1 hx with e | hx
        · exact absurd e.symm hb
        · exact ⟨_, hx, rfl⟩)
      split
      · omega
      · split
        · rename_i h3
          have := eq_of_beq h3
          omega
        · omega

/-- A text without a space. -/
def NoSp (k : ByteArray) : Prop := ∀ b ∈ bl k, b ≠ 32
theorem cutT_at (k : ByteArray) (r : List UInt8) (x : ByteArray) (hk : NoSp k) (hx : bl x = bl k ++ 32 :: r) : cutT x = (bl k, r, true) := by
  unfold cutT cut
  have h32 : bl (⟨#[32]⟩ : ByteArray) = [32] := rfl
  have e1 : (bl k ++ 32 :: r).take (bl k).length = bl k := List.take_left
  have e2 : (bl k ++ 32 :: r).drop ((bl k).length + 1) = r := by
    rw [show bl k ++ 32 :: r = (bl k ++ [32]) ++ r by simp]
    exact List.drop_left' (by simp)
  rw [h32, hx, index_sp _ _ hk, if_pos (by omega), Int.toNat_natCast, e1, List.length_singleton, e2]
theorem cutT_no (k : ByteArray) (hk : NoSp k) : cutT k = (bl k, [], false) := by
  unfold cutT cut
  have h32 : bl (⟨#[32]⟩ : ByteArray) = [32] := rfl
  rw [h32, index_no _ hk, if_neg (by omega)]
theorem cutT_has (k : ByteArray) (hk : ¬ NoSp k) : (cutT k).2.2 = true := by
  unfold cutT cut
  have h32 : bl (⟨#[32]⟩ : ByteArray) = [32] := rfl
  have : ∃ b ∈ bl k, b = 32 := by
    unfold NoSp at hk
    simpa using hk
  rw [h32, if_pos (index_has _ this)]

theorem keyB_nosp {k : ByteArray} (h : keyB k = true) : NoSp k := by
  unfold keyB at h
  simp only [Bool.and_eq_true, List.all_eq_true, List.mem_range] at h
  intro b hb e
  subst e
  obtain ⟨i, hi, he⟩ := List.mem_iff_getElem.1 hb
  have hi' : i < k.size := by rw [← size_bl]; exact hi
  have := h.2 i hi'
  rw [List.getD_eq_getElem?_getD, show k.data.toList[i]? = some 32 from by rw [List.getElem?_eq_getElem hi, he]] at this
  simp [keyC] at this

theorem itoa_inj {a b : Int} (h : itoa a = itoa b) : a = b := by
  have nd : ∀ (n m : Nat), decDigits n ≠ 45 :: decDigits m := fun n m e => by
    have := decDigits_dg n 45 (by rw [e]; simp)
    revert this; decide
  unfold itoa at h
  split at h <;> split at h
  · have := decDigits_inj (List.cons.inj h).2
    omega
  · exact absurd h.symm (nd _ _)
  · exact absurd h (nd _ _)
  · have := decDigits_inj h
    omega
theorem mk_inj {a b : L8} (h : mk a = mk b) : a = b := by rw [← bl_mk a, ← bl_mk b, h]
theorem numC_itoa {n d : Int} (h : numC (mk (itoa n)) = some d) : d = n := itoa_inj (mk_inj (numC_some h).2.2)

theorem setC_zero' {l : List Rw} {t v : ByteArray} (h : setC l t v = 0) : setR l t v = putK key1 l (t, v) := by unfold setR; rw [if_pos h]

/-- What a step of growing that succeeds does. -/
theorem grow_ok {l : List Rw} {key T : ByteArray} (h : growC l key T = 0) : ∃ d m, numC T = some d ∧ (getL l key).2 = 0 ∧ numC (getL l key).1 = some m ∧ setC l key (mk (itoa (m + d))) = 0 ∧ growR l key T = putK key1 l (key, mk (itoa (m + d))) := by
  unfold growC at h
  cases hd : numC T with
  | none => rw [hd] at h; cases h
  | some d =>
    rw [hd] at h
    simp only at h
    by_cases hg : (getL l key).2 ≠ 0
    · rw [if_pos hg] at h; exact absurd h hg
    · rw [if_neg hg] at h
      cases hn : numC (getL l key).1 with
      | none => rw [hn] at h; cases h
      | some n =>
        rw [hn] at h
        simp only at h
        by_cases hr : n + d < -1000000000 ∨ 1000000000 < n + d
        · rw [if_pos hr] at h; cases h
        · rw [if_neg hr] at h
          refine ⟨d, n, rfl, by omega, rfl, h, ?_⟩
          unfold growR
          rw [hd]
          simp only
          rw [if_neg hg, hn]
          simp only
          rw [if_neg hr, setC_zero' h]

theorem stC_split {l : List Rw} {x : Ent} (h : stC l x = 0) : checkL l = 0 ∧ chk x = 0 := by
  refine ⟨?_, st_ok h⟩
  unfold stC at h
  by_cases hc : checkL l = 0
  · exact hc
  · rw [if_pos (by simpa using hc)] at h; exact absurd h hc

theorem st_grow {l : List Rw} {n t : Int} {x : ByteArray} (h : stC l ⟨n, t, kGrow, x⟩ = 0) : (cutT x).2.2 = true ∧ growC l (mk (cutT x).1) (mk (cutT x).2.1) = 0 ∧ stR l ⟨n, t, kGrow, x⟩ = growR l (mk (cutT x).1) (mk (cutT x).2.1) := by
  obtain ⟨h1, h2⟩ := stC_split h
  have hne : kGrow ≠ kSet := by decide
  unfold stC at h
  rw [if_neg (by simpa using h1), if_neg (by simpa using h2)] at h
  dsimp only at h
  rw [if_neg hne, if_pos rfl] at h
  by_cases hb : (cutT x).2.2 = true
  · rw [if_pos hb] at h
    refine ⟨hb, h, ?_⟩
    unfold stR
    rw [if_neg (by simpa using h1), if_neg (by simpa using h2)]
    dsimp only
    rw [if_neg hne, if_pos rfl, if_pos hb]
  · rw [if_neg hb] at h; cases h

theorem st_set {l : List Rw} {n t : Int} {x : ByteArray} (h : stC l ⟨n, t, kSet, x⟩ = 0) : (cutT x).2.2 = true ∧ setC l (mk (cutT x).1) (mk (cutT x).2.1) = 0 ∧ stR l ⟨n, t, kSet, x⟩ = setR l (mk (cutT x).1) (mk (cutT x).2.1) := by
  obtain ⟨h1, h2⟩ := stC_split h
  unfold stC at h
  rw [if_neg (by simpa using h1), if_neg (by simpa using h2)] at h
  dsimp only at h
  rw [if_pos rfl] at h
  by_cases hb : (cutT x).2.2 = true
  · rw [if_pos hb] at h
    refine ⟨hb, h, ?_⟩
    unfold stR
    rw [if_neg (by simpa using h1), if_neg (by simpa using h2)]
    dsimp only
    rw [if_pos rfl, if_pos hb]
  · rw [if_neg hb] at h; cases h

theorem st_cut {l : List Rw} {n t : Int} {x : ByteArray} (h : stC l ⟨n, t, kCut, x⟩ = 0) : (cutT x).2.2 = false ∧ cutC l (mk (cutT x).1) = 0 ∧ stR l ⟨n, t, kCut, x⟩ = cutR l (mk (cutT x).1) := by
  obtain ⟨h1, h2⟩ := stC_split h
  have hne : kCut ≠ kSet := by decide
  have hne2 : kCut ≠ kGrow := by decide
  unfold stC at h
  rw [if_neg (by simpa using h1), if_neg (by simpa using h2)] at h
  dsimp only at h
  rw [if_neg hne, if_neg hne2, if_pos rfl] at h
  by_cases hb : (cutT x).2.2 = true
  · rw [if_pos hb] at h; cases h
  · rw [if_neg hb] at h
    refine ⟨by simpa using hb, h, ?_⟩
    unfold stR
    rw [if_neg (by simpa using h1), if_neg (by simpa using h2)]
    dsimp only
    rw [if_neg hne, if_neg hne2, if_pos rfl, if_neg hb]

theorem run2 {l : List Rw} {x y : Ent} (h : (runF l [x, y]).2.2 = 0) : stC l x = 0 ∧ stC (stR l x) y = 0 ∧ (runF l [x, y]).1 = stR (stR l x) y := by
  unfold runF at h ⊢
  by_cases hc : checkL l = 0
  · rw [if_neg (by simpa using hc), if_neg (by simp)] at h ⊢
    rw [runG_cons] at h ⊢
    rw [if_neg (by simp)] at h ⊢
    by_cases h1 : stC l x = 0
    · rw [if_neg (by simpa using h1)] at h ⊢
      rw [runG_cons] at h ⊢
      by_cases h2 : (some x.num).any (fun q => decide (y.num ≠ q + 1)) = true
      · rw [if_pos h2] at h; cases h
      · rw [if_neg h2] at h ⊢
        by_cases h3 : stC (stR l x) y = 0
        · rw [if_neg (by simpa using h3)] at h ⊢
          exact ⟨h1, h3, rfl⟩
        · rw [if_pos h3] at h; exact absurd h h3
    · rw [if_pos h1] at h; exact absurd h h1
  · rw [if_pos hc] at h; exact absurd h hc

theorem undoneA (l : List Rw) (key X Y : ByteArray) (n : Nat) (hg : (getL l key).2 = 0) (hX : bl X = bl key ++ 32 :: decDigits n) (hY : bl Y = bl key ++ 32 :: 45 :: decDigits n) (hn : 1 ≤ n)
    (h : (runF l [⟨1, 0, kGrow, X⟩, ⟨2, 0, kGrow, Y⟩]).2.2 = 0) : (runF l [⟨1, 0, kGrow, X⟩, ⟨2, 0, kGrow, Y⟩]).1 = l := by
  obtain ⟨h1, h2, h3⟩ := run2 h
  rw [h3]
  have hc := (stC_split h1).1
  have hf := fine_of hc
  rw [getL_fine hf] at hg
  cases hk : getK key1 l key with
  | none => rw [hk] at hg; cases hg
  | some x =>
    obtain ⟨hxl, hxk⟩ := (getK_some hf.sorted).1 hk
    have hgl : getL l key = (x.2, 0) := by rw [getL_fine hf, hk]
    have hns : NoSp key := by
      have := (hf.key x hxl).1
      rw [show x.1 = key from hxk] at this
      exact keyB_nosp this
    obtain ⟨_, h1c, h1r⟩ := st_grow h1
    obtain ⟨_, h2c, h2r⟩ := st_grow h2
    rw [cutT_at key _ X hns hX] at h1c h1r
    rw [cutT_at key _ Y hns hY] at h2c h2r
    simp only [mk_bl] at h1c h1r h2c h2r
    rw [h2r]
    rw [h1r] at h2c ⊢
    obtain ⟨d, m, e1, e2, e3, e4, e5⟩ := grow_ok h1c
    have hd : d = (n : Int) := numC_itoa (n := (n : Int)) (by rw [itoa_nonneg]; exact e1)
    subst hd
    rw [e5] at h2c ⊢
    obtain ⟨d2, m2, g1, g2, g3, g4, g5⟩ := grow_ok h2c
    have hd2 : d2 = -(n : Int) := numC_itoa (n := -(n : Int)) (by rw [itoa_neg _ hn]; exact g1)
    subst hd2
    have hf1 : Fine (putK key1 l (key, mk (itoa (m + n)))) := put_fine e4
    have hgl1 : getL (putK key1 l (key, mk (itoa (m + n)))) key = (mk (itoa (m + n)), 0) := by
      rw [getL_fine hf1, getK_put hf.sorted, if_pos rfl]
    rw [hgl1] at g3
    have hm2 := numC_itoa g3
    subst hm2
    rw [g5]
    rw [show m + (n : Int) + -(n : Int) = m by omega]
    rw [hgl] at e3
    rw [(numC_some e3).2.2]
    have hs1 := putK_sorted hf.sorted ((key, mk (itoa (m + n))) : Rw)
    refine sorted_ext (putK_sorted hs1 _) hf.sorted fun y => ?_
    rw [putK_mem hs1, putK_mem hf.sorted]
    constructor
    · rintro (rfl | ⟨rfl | ⟨hy, _⟩, hne⟩)
      · have : x = (key, x.2) := by rw [← show x.1 = key from hxk]
        rw [← this]; exact hxl
      · exact absurd rfl hne
      · exact hy
    · intro hy
      by_cases e : key1 y = key
      · refine .inl ?_
        have : y = x := uniqK hf.sorted hy hxl (e.trans hxk.symm)
        rw [this, ← show x.1 = key from hxk]
      · exact .inr ⟨.inr ⟨hy, e⟩, e⟩

theorem undoneB (l : List Rw) (key X : ByteArray) (hg : (getL l key).2 ≠ 0) (hX : bl X = bl key ++ [32, 120])
    (h : (runF l [⟨7, 0, kSet, X⟩, ⟨8, 0, kCut, key⟩]).2.2 = 0) : (runF l [⟨7, 0, kSet, X⟩, ⟨8, 0, kCut, key⟩]).1 = l := by
  obtain ⟨h1, h2, h3⟩ := run2 h
  rw [h3]
  have hc := (stC_split h1).1
  have hf := fine_of hc
  obtain ⟨hb, h2c, h2r⟩ := st_cut h2
  have hns : NoSp key := by
    by_cases hn : NoSp key
    · exact hn
    · rw [cutT_has key hn] at hb; cases hb
  obtain ⟨_, h1c, h1r⟩ := st_set h1
  rw [cutT_at key _ X hns hX] at h1c h1r
  rw [cutT_no key hns] at h2c h2r
  simp only [mk_bl] at h1c h1r h2c h2r
  rw [h2r, h1r, setC_zero' h1c]
  rw [h1r, setC_zero' h1c] at h2c
  have hf1 : Fine (putK key1 l (key, mk [120])) := put_fine h1c
  have hnk : hasK key1 l key = false := by
    cases hh : hasK key1 l key with
    | false => rfl
    | true =>
      rw [getL_fine hf, getK_eq hf.sorted, if_pos hh] at hg
      exact absurd rfl hg
  have hh1 : hasK key1 (putK key1 l (key, mk [120])) key = true := by
    unfold cutC at h2c
    rw [if_neg (by simpa using fine_check hf1)] at h2c
    by_cases hh : hasK key1 (putK key1 l (key, mk [120])) key = true
    · exact hh
    · rw [if_neg hh] at h2c; cases h2c
  rw [(cutC_fine hf1 hh1).2]
  refine sorted_ext (cutK_sorted hf1.sorted _) hf.sorted fun y => ?_
  rw [cutK_mem hf1.sorted hh1, putK_mem hf.sorted]
  constructor
  · rintro ⟨rfl | ⟨hy, _⟩, hne⟩
    · exact absurd rfl hne
    · exact hy
  · intro hy
    have := hasK_no hf.sorted hnk y hy
    exact ⟨.inr ⟨hy, this⟩, this⟩
end Go.Proofs.YtbbklfjgojjlhaaDoor
