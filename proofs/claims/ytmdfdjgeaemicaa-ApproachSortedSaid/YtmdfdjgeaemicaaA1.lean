/- Package approach: the contract of Check. -/
import Derived.Test.YtmdfdjgeaemicaaCut
import Derived.Test.YtmdfdjgeaemicaaDr
import Derived.Laws.Rows
namespace Go.Proofs.Ytmdfdjgeaemicaa
open Go.RowKit

/-- An arrival as its four cells. -/
structure It where
  nm : ByteArray
  wk : Int
  rd : Int
  sl : Int

def It.row (x : It) : List Value := [.string x.nm, .int .i64 x.wk, .int .i64 x.rd, .int .i64 x.sl]
def It.ok (x : It) : Prop := 0 ≤ x.wk ∧ x.wk ≤ 3 ∧ 0 ≤ x.rd ∧ x.rd ≤ 200000 ∧ 0 ≤ x.sl ∧ x.sl ≤ 200000
def It.okB (x : It) : Bool := decide (0 ≤ x.wk ∧ x.wk ≤ 3 ∧ 0 ≤ x.rd ∧ x.rd ≤ 200000 ∧ 0 ≤ x.sl ∧ x.sl ≤ 200000)

/-- The gaps as sixteen cells. -/
def Gaps (G : Array Value) (g : Nat → Int) : Prop := G.size = 16 ∧ ∀ i, i < 16 → G[i]? = some (.int .i64 (g i))
def gapOk (v : Int) : Prop := 0 ≤ v ∧ v ≤ 1000
def gapOkB (v : Int) : Bool := decide (0 ≤ v ∧ v ≤ 1000)
def gapsOkB (g : Nat → Int) : Bool := (List.range 16).all fun i => gapOkB (g i)
def itsOkB (n : Nat) (its : Nat → It) : Bool := (List.range n).all fun i => (its i).okB
theorem gapsOkB_iff {g : Nat → Int} : gapsOkB g = true ↔ ∀ i, i < 16 → gapOk (g i) := by
  simp [gapsOkB, gapOkB, gapOk]
theorem itsOkB_iff {n : Nat} {its : Nat → It} : itsOkB n its = true ↔ ∀ i, i < n → (its i).ok := by
  simp [itsOkB, It.okB, It.ok]

def checkCode (n : Nat) (its : Nat → It) (g : Nat → Int) : Int :=
  if 32 < n then 2 else if gapsOkB g && itsOkB n its then 0 else 4

theorem checkCode_large {n : Nat} {its : Nat → It} {g : Nat → Int} (h : 32 < n) : checkCode n its g = 2 := by unfold checkCode; rw [if_pos h]
theorem checkCode_ok {n : Nat} {its : Nat → It} {g : Nat → Int} (h : ¬ 32 < n) (hg : ∀ i, i < 16 → gapOk (g i)) (hi : ∀ i, i < n → (its i).ok) : checkCode n its g = 0 := by
  unfold checkCode
  rw [if_neg h, if_pos (by rw [gapsOkB_iff.2 hg, itsOkB_iff.2 hi]; rfl)]
theorem checkCode_gap {n : Nat} {its : Nat → It} {g : Nat → Int} (h : ¬ 32 < n) (i : Nat) (hi : i < 16) (hg : ¬ gapOk (g i)) : checkCode n its g = 4 := by
  unfold checkCode
  rw [if_neg h, if_neg]
  intro hh
  rw [Bool.and_eq_true] at hh
  exact hg (gapsOkB_iff.1 hh.1 i hi)
theorem checkCode_it {n : Nat} {its : Nat → It} {g : Nat → Int} (h : ¬ 32 < n) (i : Nat) (hi : i < n) (hg : ¬ (its i).ok) : checkCode n its g = 4 := by
  unfold checkCode
  rw [if_neg h, if_neg]
  intro hh
  rw [Bool.and_eq_true] at hh
  exact hg (itsOkB_iff.1 hh.2 i hi)
theorem checkCode_inv {n : Nat} {its : Nat → It} {g : Nat → Int} (h : checkCode n its g = 0) : n ≤ 32 ∧ (∀ i, i < 16 → gapOk (g i)) ∧ (∀ i, i < n → (its i).ok) := by
  unfold checkCode at h
  by_cases h1 : 32 < n
  · rw [if_pos h1] at h; cases h
  · rw [if_neg h1] at h
    by_cases h2 : (gapsOkB g && itsOkB n its) = true
    · rw [Bool.and_eq_true] at h2
      exact ⟨by omega, gapsOkB_iff.1 h2.1, itsOkB_iff.1 h2.2⟩
    · rw [if_neg h2] at h; cases h

theorem Gaps.row {G : Array Value} {g : Nat → Int} (h : Gaps G g) (k : Nat) (hk : k < 4) :
    G.extract (k * 4) (k * 4 + 4) = #[.int .i64 (g (4 * k)), .int .i64 (g (4 * k + 1)), .int .i64 (g (4 * k + 2)), .int .i64 (g (4 * k + 3))] := by
  obtain ⟨hs, hc⟩ := h
  apply Array.ext
  · simp [hs]; omega
  · intro i h1 h2
    simp at h2
    have e := hc (k * 4 + i) (by omega)
    rw [Array.getElem?_eq_getElem (by omega)] at e
    have e' := Option.some.inj e
    rw [Array.getElem_extract]
    rw [e']
    match i, h2 with
    | 0, _ => simp [Nat.mul_comm]
    | 1, _ => simp [Nat.mul_comm]
    | 2, _ => simp [Nat.mul_comm]
    | 3, _ => simp [Nat.mul_comm]

theorem row_cell {g : Nat → Int} (k m : Nat) (hm : m < 4) :
    (#[Value.int .i64 (g (4 * k)), Value.int .i64 (g (4 * k + 1)), Value.int .i64 (g (4 * k + 2)), Value.int .i64 (g (4 * k + 3))])[m]? = some (.int .i64 (g (4 * k + m))) := by
  match m, hm with
  | 0, _ => rfl
  | 1, _ => rfl
  | 2, _ => rfl
  | 3, _ => rfl

theorem info23 : ∃ i, Try.prog.info? 23 = some i ∧ i.size = 4 := by
  have h : (Try.prog.info? 23).map (·.size) = some 4 := by kernel_rfl
  cases hi : Try.prog.info? 23 with
  | none => rw [hi] at h; cases h
  | some i => rw [hi] at h; exact ⟨i, rfl, by simpa using h⟩
theorem info3 : ∃ i, Try.prog.info? 3 = some i ∧ i.size = 1 := by
  have h : (Try.prog.info? 3).map (·.size) = some 1 := by kernel_rfl
  cases hi : Try.prog.info? 3 with
  | none => rw [hi] at h; cases h
  | some i => rw [hi] at h; exact ⟨i, rfl, by simpa using h⟩

theorem index_gaps {G : Array Value} {g : Nat → Int} (h : Gaps G g) (k : Nat) (hk : k < 4) (w : World) :
    (Instr.index 24 (.agg G) (.int .i64 (k : Int))).run Try.prog w = .ok (.agg #[.int .i64 (g (4 * k)), .int .i64 (g (4 * k + 1)), .int .i64 (g (4 * k + 2)), .int .i64 (g (4 * k + 3))]) w := by
  obtain ⟨i, hi, hs⟩ := info23
  have := run_index_row (P := Try.prog) Try.underlying24 Try.underlying23 rfl hi G .i64 k hk w
  rw [hs, h.row k hk] at this
  exact this

theorem index_row {g : Nat → Int} (k m : Nat) (hm : m < 4) (w : World) :
    (Instr.index 23 (.agg #[.int .i64 (g (4 * k)), .int .i64 (g (4 * k + 1)), .int .i64 (g (4 * k + 2)), .int .i64 (g (4 * k + 3))]) (.int .i64 (m : Int))).run Try.prog w = .ok (.int .i64 (g (4 * k + m))) w := by
  obtain ⟨i, hi, hs⟩ := info3
  exact run_index_cell (P := Try.prog) Try.underlying23 Try.underlying3 rfl hi hs _ .i64 m hm _ (row_cell k m hm) w

theorem gaps_step {g : Nat → Int} {k : Nat} (h : Hid (∀ i, i < k → gapOk (g i))) (hk : gapOk (g k)) : Hid (∀ i, i < k + 1 → gapOk (g i)) := fun i hi => by
  by_cases e : i = k
  · subst e; exact hk
  · exact h.out i (by omega)
theorem its_step {its : Nat → It} {k : Nat} (h : Hid (∀ i, i < k → (its i).ok)) (hk : (its k).ok) : Hid (∀ i, i < k + 1 → (its i).ok) := fun i hi => by
  by_cases e : i = k
  · subst e; exact hk
  · exact h.out i (by omega)

set_option maxRecDepth 100000 in
set_option maxHeartbeats 1000000 in
theorem Check_any (A : Option Addr) (n c : Nat) (its : Nat → It) (G : Array Value) (g : Nat → Int) (w : World) (hA : Sl w w.heap.size 4 A n (fun i => (its i).row)) (hn : n ≤ maxLen) (hG : Gaps G g) :
    Calls Try.prog 10 #[.slice A n c, .agg G] w fun e w' => e = .returned (.int .i64 (checkCode n its g)) ∧ Below w.heap.size w w' := by
  unfold maxLen at hn
  by_cases h32 : 32 < n
  · have H := Lib.hid (checkCode_large (its := its) (g := g) h32)
    go_enter Try.func10, Try.ntmps10
    go_wp2
    go_ret
    exact ⟨ret_int H.out.symm, (Below.refl _ _).alloc (Nat.le_refl _) _⟩
  · have hbase : Below w.heap.size w (w.alloc (.cells G 24)) := (Below.refl _ _).alloc (Nat.le_refl _) _
    have HS := Lib.hid hG.1
    go_enter Try.func10, Try.ntmps10
    go_wp2_with (refine wpList_load_row rfl 24 _ rfl w.heap.size rfl 24 G (0, 0) _ (heap_alloc_new w _) Try.underlying24 rfl (by rw [HS.out]; kernel_rfl) ?_)
    go_loopw [15] (fun k wr => ∃ r : Nat, r ≤ 4 ∧ k = .int .i64 r ∧ Hid (∀ i, i < 4 * r → gapOk (g i)) ∧ Below w.heap.size w wr) (fun k _ => 4 - (intOf k).toNat)
    case atStart => exact ⟨0, by omega, rfl, fun i hi => absurd hi (by omega), hbase⟩
    case round =>
      obtain ⟨r, hr, rfl, hok, hbel⟩ := hrel
      obtain ⟨wo, rfl⟩ : ∃ wo : World, wo = wr := ⟨_, rfl⟩
      by_cases hlt : r < 4
      · have hix := fun W => index_gaps hG r hlt W
        have hd : decide ((r : Int) < 4) = true := decide_eq_true (by omega)
        go_wp2
        go_loopw [19] (fun k wr => ∃ m : Nat, m ≤ 4 ∧ k = .int .i64 m ∧ Hid (∀ i, i < 4 * r + m → gapOk (g i)) ∧ Below w.heap.size w wr) (fun k _ => 4 - (intOf k).toNat)
        case atStart => exact ⟨0, by omega, rfl, hok, hbel.alloc hbel.size _⟩
        case round =>
          obtain ⟨m, hm, rfl, hok2, hbel2⟩ := hrel
          clear hix
          by_cases hlm : m < 4
          · have hix := fun W => index_row (g := g) r m hlm W
            go_wp2
            all_goals first
              | (go_ret
                 exact ⟨ret_int (checkCode_gap h32 (4 * r + m) (by omega) (by unfold gapOk; omega)).symm, hbel2⟩)
              | (go_roundw
                 case rel => exact ⟨m + 1, by omega, by go_num, gaps_step hok2 (by unfold gapOk; omega), hbel2⟩
                 case measure => simp [intOf]; omega)
          · go_wp2
            go_roundw
            case rel => exact ⟨r + 1, by omega, by go_num, fun i hi => hok2.out i (by omega), hbel2⟩
            case measure => simp [intOf]; omega
      · go_wp2
        go_loopw [32] (fun k wr => ∃ i : Nat, i ≤ n ∧ k = .int .i64 i ∧ Hid (∀ j, j < i → (its j).ok) ∧ Below w.heap.size w wr) (fun k _ => n - (intOf k).toNat)
        case atStart => exact ⟨0, by omega, rfl, fun i hi => absurd hi (by omega), hbel⟩
        case round =>
          obtain ⟨i, hi, rfl, hits, hbel2⟩ := hrel
          by_cases hin : i < n
          · obtain ⟨b, off, rfl, hb, hrow⟩ := hA (by omega)
            have hr := hrow i hin
            have c0 : wr.cell? ⟨b, off + i * 4, none⟩ = some (.string (its i).nm) := (hbel2.cell (p := ⟨b, off + i * 4, none⟩) hb).trans (hr 0 _ rfl)
            have c1 : wr.cell? ⟨b, off + i * 4 + 1, none⟩ = some (.int .i64 (its i).wk) := (hbel2.cell (p := ⟨b, off + i * 4 + 1, none⟩) hb).trans (hr 1 _ rfl)
            have c2 : wr.cell? ⟨b, off + i * 4 + 2, none⟩ = some (.int .i64 (its i).rd) := (hbel2.cell (p := ⟨b, off + i * 4 + 2, none⟩) hb).trans (hr 2 _ rfl)
            have c3 : wr.cell? ⟨b, off + i * 4 + 3, none⟩ = some (.int .i64 (its i).sl) := (hbel2.cell (p := ⟨b, off + i * 4 + 3, none⟩) hb).trans (hr 3 _ rfl)
            clear hr hrow
            go_wp2
            all_goals first
              | (go_ret
                 exact ⟨ret_int (checkCode_it h32 i hin (by unfold It.ok; omega)).symm, hbel2.alloc hbel2.size _⟩)
              | (go_roundw
                 case rel => exact ⟨i + 1, by omega, by go_num, its_step hits (by unfold It.ok; omega), hbel2.alloc hbel2.size _⟩
                 case measure => simp [intOf]; omega)
          · go_wp2
            go_ret
            exact ⟨ret_int (checkCode_ok h32 (fun j hj => hok.out j (by omega)) (fun j hj => hits.out j (by omega))).symm, hbel2⟩
end Go.Proofs.Ytmdfdjgeaemicaa
