/- Plain law: growing by two numbers is growing by their sum. -/
import Derived.Test.YtbbklfjgojjlhaaDoorQ2
import Derived.Test.YtbbklfjgojjlhaaDoorK7
import Derived.Lib.ItoaLen
namespace Go.Proofs.YtbbklfjgojjlhaaDoor
open Go.RowKit
open Go.Lib hiding intOf

def kK : ByteArray := ⟨#[107]⟩

theorem itoa_bytes (a : Int) : ∀ b ∈ itoa a, 32 ≤ b.toNat ∧ b.toNat ≤ 126 := by
  have hd : ∀ n, ∀ b ∈ decDigits n, 32 ≤ b.toNat ∧ b.toNat ≤ 126 := fun n b hb => by
    have := decDigits_dg n b hb
    unfold isDg at this
    simp only [Bool.and_eq_true, decide_eq_true_eq] at this
    omega
  unfold itoa
  split
  · intro b hb
    rcases List.mem_cons.1 hb with rfl | hb
    · decide
    · exact hd _ b hb
  · exact hd _

theorem itoa_len7 {a : Int} (h0 : -900000 ≤ a) (h1 : a ≤ 900000) : (itoa a).length ≤ 7 := by
  unfold itoa
  split
  · have := nDigits_le6 (n := a.natAbs) (by omega)
    rw [List.length_cons]; omega
  · have := nDigits_le6 (n := a.toNat) (by omega)
    omega

theorem valB_itoa {a : Int} (h0 : -900000 ≤ a) (h1 : a ≤ 900000) : valB (mk (itoa a)) = true := by
  have hl := itoa_len7 h0 h1
  unfold valB
  simp only [Bool.and_eq_true, decide_eq_true_eq, List.all_eq_true, List.mem_range]
  refine ⟨by rw [size_mk]; omega, fun i hi => ?_⟩
  rw [size_mk] at hi
  have hb : (mk (itoa a)).data.toList = itoa a := bl_mk _
  rw [hb, List.getD_eq_getElem?_getD, List.getElem?_eq_getElem hi]
  have := itoa_bytes a _ (List.getElem_mem hi)
  unfold valC
  simp only [Option.getD_some, Bool.and_eq_true, decide_eq_true_eq]
  exact this

theorem atoi_itoa (a : Int) : atoi (itoa a) = some a := by
  by_cases h : a < 0
  · obtain ⟨k, rfl⟩ : ∃ k : Nat, a = -(k : Int) := ⟨a.natAbs, by omega⟩
    rw [itoa_neg k (by omega)]
    have e : atoi (45 :: decDigits k) = (decNat (decDigits k)).map fun (m : Nat) => -(m : Int) := by
      rw [atoi, if_pos (show ((45 : UInt8) == 45) = true by decide)]
    rw [e, decNat_decDigits]
    rfl
  · obtain ⟨k, rfl⟩ : ∃ k : Nat, a = (k : Int) := ⟨a.toNat, by omega⟩
    rw [itoa_nonneg, atoi_decDigits]

theorem numC_of {a : Int} (h0 : -900000 ≤ a) (h1 : a ≤ 900000) : numC (mk (itoa a)) = some a := by
  have hl := itoa_len7 h0 h1
  unfold numC
  rw [bl_mk, atoiAll_short _ (by omega), atoi_itoa]
  show (if -1000000000 ≤ a ∧ a ≤ 1000000000 ∧ mk (itoa a) = mk (itoa a) then some a else none) = some a
  rw [if_pos ⟨by omega, by omega, rfl⟩]

theorem fine1 {v : ByteArray} (h : valB v = true) : Fine [(kK, v)] :=
  ⟨by show 1 ≤ 64; omega, fun x hx => by
    have : x = (kK, v) := by simpa using hx
    subst this
    exact ⟨show keyB kK = true by decide, h⟩, by unfold SortedK; exact List.pairwise_singleton _ _⟩
theorem low1 (v : ByteArray) : lowK key1 [((kK, v) : Rw)] kK = 0 := by
  unfold lowK
  rw [List.countP_cons, List.countP_nil]
  rw [show lsS (key1 ((kK, v) : Rw)) kK = false from lsS_irr _]
  rfl
theorem has1 (v : ByteArray) : hasK key1 [((kK, v) : Rw)] kK = true := by
  unfold hasK
  rw [low1]
  have : cmpS (key1 [((kK, v) : Rw)][0]!) kK = 0 := by
    unfold cmpS
    rw [show key1 [((kK, v) : Rw)][0]! = kK from rfl, lsS_irr]
    rfl
  rw [this]
  rfl
theorem put1 (v u : ByteArray) : putK key1 [((kK, v) : Rw)] (kK, u) = [(kK, u)] := by
  unfold putK
  rw [show key1 ((kK, u) : Rw) = kK from rfl, has1, low1]
  rfl
theorem get1 {v : ByteArray} (h : valB v = true) : getL [(kK, v)] kK = (v, 0) := by
  rw [getL_fine (fine1 h), getK_eq (fine1 h).sorted, if_pos (has1 v), low1]
  rfl

theorem step1 {a b : Int} (ha : -3000 ≤ a ∧ a ≤ 3000) (hb : -3000 ≤ b ∧ b ≤ 3000) {n : Int} (hn : 1 ≤ n ∧ n ≤ 500) {X : ByteArray} (hX : bl X = 107 :: 32 :: itoa b) :
    stC [(kK, mk (itoa a))] ⟨n, 0, kGrow, X⟩ = 0 ∧ stR [(kK, mk (itoa a))] ⟨n, 0, kGrow, X⟩ = [(kK, mk (itoa (a + b)))] := by
  have va := valB_itoa (a := a) (by omega) (by omega)
  have vab := valB_itoa (a := a + b) (by omega) (by omega)
  have hc := fine_check (fine1 va)
  have hlb := itoa_len7 (a := b) (by omega) (by omega)
  have hx : chk ⟨n, 0, kGrow, X⟩ = 0 := chk_ok.2 ⟨hn.1, hn.2, by show (0 : Int) ≤ 0; omega, by show (0 : Int) ≤ 200000; omega, by show (bl X).length ≤ 120; rw [hX]; simp only [List.length_cons]; omega, show (bl kGrow).length ≤ 8 by decide, show bl kGrow ≠ [] by decide, show ∀ b ∈ bl kGrow, lower b = true by decide⟩
  have hcut : cutT X = (bl kK, itoa b, true) := cutT_at kK (itoa b) X (keyB_nosp (by decide)) hX
  have hne : kGrow ≠ kSet := by decide
  have hs : setC [(kK, mk (itoa a))] kK (mk (itoa (a + b))) = 0 := by
    unfold setC
    rw [if_neg (by simpa using hc), vab, put1, show keyB kK = true by decide]
    rfl
  have hg : growC [(kK, mk (itoa a))] kK (mk (itoa b)) = 0 ∧ growR [(kK, mk (itoa a))] kK (mk (itoa b)) = [(kK, mk (itoa (a + b)))] := by
    constructor
    · unfold growC
      rw [numC_of (a := b) (by omega) (by omega)]
      dsimp only
      rw [get1 va]
      dsimp only
      rw [if_neg (by decide), numC_of (a := a) (by omega) (by omega)]
      dsimp only
      rw [if_neg (by omega)]
      exact hs
    · unfold growR
      rw [numC_of (a := b) (by omega) (by omega)]
      dsimp only
      rw [get1 va]
      dsimp only
      rw [if_neg (by decide), numC_of (a := a) (by omega) (by omega)]
      dsimp only
      rw [if_neg (by omega), setC_zero' hs, put1]
  constructor
  · unfold stC
    rw [if_neg (by simpa using hc), if_neg (by simpa using hx)]
    dsimp only
    rw [if_neg hne, if_pos rfl, hcut]
    dsimp only
    rw [if_pos rfl, mk_bl]
    exact hg.1
  · unfold stR
    rw [if_neg (by simpa using hc), if_neg (by simpa using hx)]
    dsimp only
    rw [if_neg hne, if_pos rfl, hcut]
    dsimp only
    rw [if_pos rfl, mk_bl]
    exact hg.2

theorem grows2 {a b c : Int} (ha : -1000 ≤ a ∧ a ≤ 1000) (hb : -1000 ≤ b ∧ b ≤ 1000) (hc : -1000 ≤ c ∧ c ≤ 1000) {X Y : ByteArray} (hX : bl X = 107 :: 32 :: itoa b) (hY : bl Y = 107 :: 32 :: itoa c) :
    runF [(kK, mk (itoa a))] [⟨1, 0, kGrow, X⟩, ⟨2, 0, kGrow, Y⟩] = ([(kK, mk (itoa (a + b + c)))], 0, 0) := by
  have hck := fine_check (fine1 (valB_itoa (a := a) (by omega) (by omega)))
  obtain ⟨s1, s2⟩ := step1 (a := a) (b := b) (n := 1) (by omega) (by omega) (by omega) hX
  obtain ⟨t1, t2⟩ := step1 (a := a + b) (b := c) (n := 2) (by omega) (by omega) (by omega) hY
  unfold runF
  rw [if_neg (by simpa using hck), if_neg (by simp), runG_cons, if_neg (by simp), if_neg (by simpa using s1), s2, runG_cons, if_neg (by simp), if_neg (by simpa using t1), t2]
  rfl
theorem grows1 {a b : Int} (ha : -1000 ≤ a ∧ a ≤ 1000) (hb : -2000 ≤ b ∧ b ≤ 2000) {X : ByteArray} (hX : bl X = 107 :: 32 :: itoa b) :
    runF [(kK, mk (itoa a))] [⟨1, 0, kGrow, X⟩] = ([(kK, mk (itoa (a + b)))], 0, 0) := by
  have hck := fine_check (fine1 (valB_itoa (a := a) (by omega) (by omega)))
  obtain ⟨s1, s2⟩ := step1 (a := a) (b := b) (n := 1) (by omega) (by omega) (by omega) hX
  unfold runF
  rw [if_neg (by simpa using hck), if_neg (by simp), runG_cons, if_neg (by simp), if_neg (by simpa using s1), s2]
  rfl
end Go.Proofs.YtbbklfjgojjlhaaDoor
