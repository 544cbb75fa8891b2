/- Package hold: Down. -/
import Derived.Test.YtjiofgfdfljgmaaA5
namespace Go.Proofs.Ytjiofgfdfljgmaa
open Go.RowKit

/-- May a flight descend, the one below it being at height p? -/
def dnh (lo st : Int) (p : Option Int) (x : Lv) : Bool := decide (lo ≤ x.2.1 - st) && (match p with | none => true | some q => decide (q < x.2.1 - st))
def dn1 (lo st : Int) (p : Option Int) (x : Lv) : Lv := if dnh lo st p x = true then (x.1, x.2.1 - st, x.2.2) else x
def dnA (lo st : Int) (f : Nat → Lv) : Nat → Lv
  | 0 => dn1 lo st none (f 0)
  | i + 1 => dn1 lo st (some (dnA lo st f i).2.1) (f (i + 1))
def prevH (lo st : Int) (f : Nat → Lv) : Nat → Option Int
  | 0 => none
  | i + 1 => some (dnA lo st f i).2.1
theorem dnA_eq (lo st : Int) (f : Nat → Lv) (i : Nat) : dnA lo st f i = dn1 lo st (prevH lo st f i) (f i) := by cases i <;> rfl
def dnN (lo st : Int) (f : Nat → Lv) : Nat → Nat
  | 0 => 0
  | j + 1 => dnN lo st f j + if dnh lo st (prevH lo st f j) (f j) = true then 1 else 0
theorem dnN_le (lo st : Int) (f : Nat → Lv) : ∀ j, dnN lo st f j ≤ j
  | 0 => Nat.le_refl _
  | j + 1 => by have := dnN_le lo st f j; rw [dnN]; split <;> omega
def at_ (ls : List Lv) (i : Nat) : Lv := ls[i]!
def dnL (lo st : Int) (ls : List Lv) : List Lv := (List.range ls.length).map (dnA lo st (at_ ls))
theorem dnL_len (lo st : Int) (ls : List Lv) : (dnL lo st ls).length = ls.length := by simp [dnL]
theorem dnL_at (lo st : Int) (ls : List Lv) {i : Nat} (hi : i < ls.length) : (dnL lo st ls)[i]! = dnA lo st (at_ ls) i := by
  rw [getElem!_pos _ i (by rw [dnL_len]; exact hi)]
  simp [dnL]
/-- The rows behind j rounds. -/
def rowD (lo st : Int) (ls : List Lv) (j i : Nat) : List Value := lvV (if i < j then dnA lo st (at_ ls) i else at_ ls i)
theorem rowD_len (lo st : Int) (ls : List Lv) (j : Nat) : ∀ i, i < ls.length → (rowD lo st ls j i).length = 3 := fun _ _ => rfl
theorem rowD_zero (lo st : Int) (ls : List Lv) : flatR (rowD lo st ls 0) ls.length = lvs ls := by
  unfold lvs flatR
  rw [List.flatMap_def, List.flatMap_def]
  congr 1
theorem rowD_all (lo st : Int) (ls : List Lv) : flatR (rowD lo st ls ls.length) ls.length = lvs (dnL lo st ls) := by
  unfold lvs flatR
  rw [dnL_len, List.flatMap_def, List.flatMap_def]
  congr 1
  refine List.map_congr_left fun i hi => ?_
  have hi : i < ls.length := List.mem_range.1 hi
  rw [dnL_at lo st ls hi]
  unfold rowD
  rw [if_pos hi]
theorem flat_congr {row row' : Nat → List Value} {n : Nat} (h : ∀ i, i < n → row i = row' i) : flatR row n = flatR row' n := by
  unfold flatR
  rw [List.flatMap_def, List.flatMap_def]
  congr 1
  exact List.map_congr_left fun i hi => h i (List.mem_range.1 hi)
theorem rowD_no (lo st : Int) (ls : List Lv) {j : Nat} (h : dnh lo st (prevH lo st (at_ ls) j) (at_ ls j) = false) : flatR (rowD lo st ls j) ls.length = flatR (rowD lo st ls (j + 1)) ls.length :=
  flat_congr fun i _ => by
    unfold rowD
    by_cases e : i = j
    · subst e
      rw [if_neg (by omega), if_pos (by omega), dnA_eq]
      unfold dn1
      rw [h]; rfl
    · by_cases c : i < j
      · rw [if_pos c, if_pos (by omega)]
      · rw [if_neg c, if_neg (by omega)]
theorem rowD_yes (lo st : Int) (ls : List Lv) {j : Nat} (hj : j < ls.length) (h : dnh lo st (prevH lo st (at_ ls) j) (at_ ls j) = true) :
    (flatR (rowD lo st ls j) ls.length).set (j * 3 + 1) (.int .i64 ((at_ ls j).2.1 - st)) = flatR (rowD lo st ls (j + 1)) ls.length := by
  rw [flatR_set (k := 3) (by decide) (rowD_len lo st ls j) j 1 hj (by decide)]
  refine flat_congr fun i _ => ?_
  unfold rowD
  by_cases e : i = j
  · subst e
    rw [if_pos rfl, if_neg (by omega), if_pos (by omega), dnA_eq]
    unfold dn1
    rw [if_pos h]; rfl
  · rw [if_neg e]
    by_cases c : i < j
    · rw [if_pos c, if_pos (by omega)]
    · rw [if_neg c, if_neg (by omega)]

set_option maxRecDepth 100000 in
set_option maxHeartbeats 8000000 in
theorem Down_ok {g : Nat} {lo hi st now : Int} {v : Value} {ls : List Lv} {w : World} (h : StackAt g lo hi st now v ls w) (t : Int) (hn : ls.length ≤ 1000) (hwr : wrongB now t = false)
    (hst : 0 ≤ st ∧ st ≤ 10000) (hb : ∀ i, i < ls.length → -1000000 ≤ (at_ ls i).2.1 ∧ (at_ ls i).2.1 ≤ 1000000) :
    Calls Try.prog 13 #[.pointer (some ⟨g, 0, none⟩), .int .i64 t] w fun e w' => e = .returned (.tuple #[.int .i64 (dnN lo st (at_ ls) ls.length : Nat), .int .i64 0]) ∧ StackAt g lo hi st t v (dnL lo st ls) w' ∧ Upd g v v w w' := by
  obtain ⟨A, c, rfl⟩ := h.shape
  have c3 := h.cell 3
  have c4 := h.cell 4
  have f4 := h.frozen 4
  have hlt := h.lt
  have HH := Lib.hid h
  have HWR := Lib.hid hwr
  have HBD := Lib.hid hb
  have hT := h.time t
  have HT := Lib.hid hT
  clear h hwr hb hT
  generalize hnn : ls.length = n at *
  have HNN := Lib.hid hnn
  clear hnn
  go_enter Try.func13, Try.ntmps13
  go_wp2_with (go_at_call 19; go_loud (refine (wrong_any HH.out t).mono ?_; rintro e w3 ⟨he3, rfl⟩; rw [HWR.out] at he3; subst he3))
  go_loopw [6, 21] (fun u x wr => ∃ j : Nat, j ≤ n ∧ x = .int .i64 j ∧ u = .int .i64 (dnN lo st (at_ ls) j : Nat) ∧ wr.heap[g]? = some (.cells #[.int .i64 lo, .int .i64 hi, .int .i64 st, .slice A n c, .int .i64 t] 46 (0, 0)) ∧
      wr.ownsRow (g + 1) 39 3 (.slice A n c) n (flatR (rowD lo st ls j) n) ∧ Upd g (.slice A n c) (.slice A n c) w wr) (fun _ x _ => n - (intOf x).toNat)
  case atStart =>
    refine ⟨0, by omega, rfl, rfl, ?_, ?_, HT.out.2⟩
    · exact HT.out.1.blk
    · have := HT.out.1.own
      rw [← rowD_zero lo st, HNN.out] at this; exact this
  case round =>
    obtain ⟨j, hj, rfl, rfl, hB, hO, hL⟩ := hrel
    by_cases hlj : j < n
    · obtain ⟨g0, cap, hv, _, hlt0⟩ := hO.form (by omega)
      have hA : A = some ⟨g0, 0, none⟩ := by injection hv
      subst hA
      have hg0 : g < g0 := (hO.lt g0 rfl).1
      have c0 := cell_of_row wr g 0 _ 46 (0, 0) hB
      have c2 := cell_of_row wr g 2 _ 46 (0, 0) hB
      have c3' := cell_of_row wr g 3 _ 46 (0, 0) hB
      have hx : wr.cell? ⟨g0, j * 3 + 1, none⟩ = some (.int .i64 (at_ ls j).2.1) := by
        rw [hO.cellAt (j * 3 + 1) (by omega), flatR_get (k := 3) n (fun i hi => rowD_len lo st ls j i (by rw [HNN.out]; exact hi)) j 1 hlj (by decide)]
        unfold rowD
        rw [if_neg (by omega)]; rfl
      have hfr := hO.frozenAt (j * 3 + 1)
      have hNle := dnN_le lo st (at_ ls) j
      have hbd := HBD.out j (by omega)
      have hj0 : (0 : Int) ≤ (j : Int) := by omega
      have hjn : (j : Int) < (n : Int) := by omega
      have HO := Lib.hid hO
      have HB := Lib.hid hB
      generalize hxe : (at_ ls j).2.1 = y at *
      have hsw : IntKind.i64.wrap (y - st) = y - st := IntWalk.i64_in _ (by omega)
      have hne0 : g0 ≠ g := by omega
      clear hO hB hv
      by_cases q1 : lo ≤ y - st
      · have b1 : decide (lo ≤ y - st) = true := by simpa using q1
        by_cases hz : j = 0
        · have b3 : ((j : Int) == 0) = true := by simp [hz]
          have HQ : Hid (dnh lo st (prevH lo st (at_ ls) j) (at_ ls j) = true) := Lib.hid (by
            rw [hz]
            rw [hz] at hxe
            unfold dnh
            rw [hxe]
            simp [prevH, q1])
          clear hz
          have HY : Hid (dnh lo st (prevH lo st (at_ ls) j) (at_ ls j) = true) := Lib.hid (HQ.out)
          have HN1 : Hid (dnN lo st (at_ ls) (j + 1) = dnN lo st (at_ ls) j + 1) := Lib.hid (by rw [dnN, if_pos HY.out])
          have hrow := rowD_yes lo st ls (by rw [HNN.out]; exact hlj) HY.out
          rw [HNN.out, hxe] at hrow
          have hst2 := HO.out.stored (j * 3 + 1) (.int .i64 (y - st))
          rw [hrow] at hst2
          have HO2 := Lib.hid hst2.1
          have hb2 := (hst2.2.block g (by omega) (fun e => by injection e with e; omega)).trans HB.out
          have HB2 := Lib.hid hb2
          have hl2 := hL.cell g0 (j * 3 + 1) (.int .i64 (y - st)) (.inr rfl) (Nat.le_of_lt hg0)
          have HL2 := Lib.hid hl2
          clear hst2 hb2 hl2 hrow hL
          go_wp2_with fail
          go_quiet (fail)
          go_wp2
          go_roundw
          case rel => exact ⟨j + 1, by omega, by go_num, by rw [HN1.out]; go_num, HB2.out, HO2.out, HL2.out.drewN _⟩
          case measure => simp [intOf]; omega
        · obtain ⟨p, hjj⟩ : ∃ p, p + 1 = j := ⟨j - 1, by omega⟩
          clear hz
          have hp : wr.cell? ⟨g0, p * 3 + 1, none⟩ = some (.int .i64 (dnA lo st (at_ ls) p).2.1) := by
            rw [HO.out.cellAt (p * 3 + 1) (by omega), flatR_get (k := 3) n (fun i hi => rowD_len lo st ls j i (by rw [HNN.out]; exact hi)) p 1 (by omega) (by decide)]
            unfold rowD
            rw [if_pos (by omega)]; rfl
          have hpd : prevH lo st (at_ ls) j = some (dnA lo st (at_ ls) p).2.1 := by rw [← hjj]; rfl
          generalize hpe : (dnA lo st (at_ ls) p).2.1 = z at *
          have b2 : ((j : Int) == 0) = false := by simp; omega
          have hpw : IntKind.i64.wrap ((j : Int) - 1) = (p : Int) := by clear hsw; rw [IntWalk.i64_in _ (by omega)]; omega
          have hp0 : (0 : Int) ≤ (p : Int) := by omega
          have hpn : (p : Int) < (n : Int) := by omega
          have HPD := Lib.hid hpd
          have HJJ := Lib.hid hjj
          clear hpd hjj hpe
          by_cases q2 : z < y - st
          · have b3 : decide (z < y - st) = true := by simpa using q2
            have HY : Hid (dnh lo st (prevH lo st (at_ ls) j) (at_ ls j) = true) := Lib.hid (by unfold dnh; rw [HPD.out, hxe]; simp [q1, q2])
            have HN1 : Hid (dnN lo st (at_ ls) (j + 1) = dnN lo st (at_ ls) j + 1) := Lib.hid (by rw [dnN, if_pos HY.out])
            have hrow := rowD_yes lo st ls (by rw [HNN.out]; exact hlj) HY.out
            rw [HNN.out, hxe] at hrow
            have hst2 := HO.out.stored (j * 3 + 1) (.int .i64 (y - st))
            rw [hrow] at hst2
            have HO2 := Lib.hid hst2.1
            have hb2 := (hst2.2.block g (by omega) (fun e => by injection e with e; omega)).trans HB.out
            have HB2 := Lib.hid hb2
            have hl2 := hL.cell g0 (j * 3 + 1) (.int .i64 (y - st)) (.inr rfl) (Nat.le_of_lt hg0)
            have HL2 := Lib.hid hl2
            clear hst2 hb2 hl2 hrow hL
            go_wp2_with fail
            go_quiet (fail)
            go_wp2
            go_roundw
            case rel => exact ⟨j + 1, by omega, by go_num, by rw [HN1.out]; go_num, HB2.out, HO2.out, HL2.out.drewN _⟩
            case measure => simp [intOf]; omega
          · have b3 : decide (z < y - st) = false := by simpa using q2
            have HY : Hid (dnh lo st (prevH lo st (at_ ls) j) (at_ ls j) = false) := Lib.hid (by unfold dnh; rw [HPD.out, hxe]; simp [q2])
            have HN0 : Hid (dnN lo st (at_ ls) (j + 1) = dnN lo st (at_ ls) j) := Lib.hid (by rw [dnN, HY.out]; rfl)
            have hrow := rowD_no lo st ls HY.out
            rw [HNN.out] at hrow
            have HO0 : Hid (wr.ownsRow (g + 1) 39 3 (.slice (some ⟨g0, 0, none⟩) n c) n (flatR (rowD lo st ls (j + 1)) n)) := Lib.hid (by rw [← hrow]; exact HO.out)
            have HL := Lib.hid hL
            clear hrow hL
            go_wp2_with fail
            go_quiet (fail)
            go_wp2
            go_roundw
            case rel => exact ⟨j + 1, by omega, by go_num, by rw [HN0.out], HB.out, HO0.out, HL.out.drewN _⟩
            case measure => simp [intOf]; omega
      · have b1 : decide (lo ≤ y - st) = false := by simpa using q1
        have HY : Hid (dnh lo st (prevH lo st (at_ ls) j) (at_ ls j) = false) := Lib.hid (by unfold dnh; rw [hxe]; simp [q1])
        have HN0 : Hid (dnN lo st (at_ ls) (j + 1) = dnN lo st (at_ ls) j) := Lib.hid (by rw [dnN, HY.out]; rfl)
        have hrow := rowD_no lo st ls HY.out
        rw [HNN.out] at hrow
        have HO0 : Hid (wr.ownsRow (g + 1) 39 3 (.slice (some ⟨g0, 0, none⟩) n c) n (flatR (rowD lo st ls (j + 1)) n)) := Lib.hid (by rw [← hrow]; exact HO.out)
        have HL := Lib.hid hL
        clear hrow hL
        go_wp2_with fail
        go_quiet (fail)
        go_wp2
        go_roundw
        case rel => exact ⟨j + 1, by omega, by go_num, by rw [HN0.out], HB.out, HO0.out, HL.out.drewN _⟩
        case measure => simp [intOf]; omega
    · obtain rfl : n = j := by omega
      have HO := Lib.hid hO
      have HB := Lib.hid hB
      clear hO hB
      go_wp2_with fail
      go_ret2
      refine ⟨rfl, ⟨?_, ?_⟩, hL⟩
      · exact HB.out
      · have := HO.out
        rw [dnL_len, HNN.out, ← rowD_all, HNN.out]; exact this
end Go.Proofs.Ytjiofgfdfljgmaa
