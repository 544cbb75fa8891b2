/- slices.Compact of an own row of texts. -/
import Derived.Test.YtojnojjiblcmcaaDoorD2
import Derived.Test.YtojnojjiblcmcaaDoorDel
import Derived.Test.YtojnojjiblcmcaaDoorRw
namespace Go.Proofs.YtojnojjiblcmcaaDoor
open Go.RowKit

theorem own_take {w : World} {base g n cap k q : Nat} {e : TypeId} {xs : List Value} (h : w.ownsRow base e k (.slice (some ⟨g, 0, none⟩) n cap) n xs) (hq : q ≤ n) : w.ownsRow base e k (.slice (some ⟨g, 0, none⟩) q cap) q (xs.take (q * k)) := by
  rcases h.2 with ⟨h', _⟩ | ⟨g', cap', cur, h', hb, hg, hnc, hcm, hcs, htake⟩
  · simp at h'
  · simp only [Value.slice.injEq, Option.some.injEq, Addr.mk.injEq, and_true, true_and] at h'
    obtain ⟨rfl, rfl⟩ := h'
    have hl := h.1
    have hqk : q * k ≤ n * k := Nat.mul_le_mul_right k hq
    refine ⟨by rw [List.length_take, hl]; omega, .inr ⟨g, cap, cur, rfl, hb, hg, by omega, hcm, hcs, ?_⟩⟩
    rw [← htake, List.take_take, Nat.min_eq_left hqk]

def strK (x : ByteArray) : List Value := [.string x]
abbrev strsK (l : List ByteArray) : List Value := rowsV strK l
/-- The first k of f's texts, each that is like the one ahead left out. -/
def ddN (f : Nat → ByteArray) : Nat → List ByteArray
  | 0 => []
  | k + 1 => if 1 ≤ k ∧ f k = f (k - 1) then ddN f k else ddN f k ++ [f k]

theorem ddN_take {l : List ByteArray} : ∀ {k : Nat}, k ≤ l.length → (∀ i, 1 ≤ i → i < k → l[i]! ≠ l[i - 1]!) → ddN (fun i => l[i]!) k = l.take k
  | 0, _, _ => rfl
  | k + 1, hk, h => by
    rw [ddN, if_neg (fun hh => h k hh.1 (by omega) hh.2), ddN_take (by omega) (fun i h1 h2 => h i h1 (by omega)), List.take_succ_eq_append_getElem (by omega), getElem!_pos l k (by omega)]
theorem ddN_len (f : Nat → ByteArray) : ∀ k, (ddN f k).length ≤ k
  | 0 => Nat.le_refl _
  | k + 1 => by
    have := ddN_len f k
    unfold ddN
    split
    · omega
    · rw [List.length_append, List.length_singleton]; omega
theorem str_info9 : (Tryd.prog.info? 9).map (fun i => (i.zero, i.size, i.bytes)) = some (some (.string ByteArray.empty), 1, 16) := by kernel_rfl

set_option maxRecDepth 100000 in
set_option maxHeartbeats 4000000 in
theorem CompactS_any (base n c : Nat) (A : Option Addr) (l : List ByteArray) (w : World) (hO : w.ownsRow base 9 1 (.slice A n c) n (strsK l)) (hl : l.length = n) (hb : base ≤ w.heap.size) (hn : n ≤ 1000) :
    Calls Tryd.prog 39 #[.slice A n c] w fun e w' => ∃ A' q, e = .returned (.slice A' q c) ∧ q = (ddN (fun i => l[i]!) n).length ∧ w'.ownsRow base 9 1 (.slice A' q c) q (strsK (ddN (fun i => l[i]!) n)) ∧ Below base w w' := by
  by_cases h2 : n < 2
  · have hdd : ddN (fun i => l[i]!) n = l := by
      have := ddN_take (l := l) (k := n) (by omega) (fun i h1 h3 => by omega)
      rw [this, ← hl, List.take_length]
    have HO := Lib.hid hO
    have HD := Lib.hid hdd
    have HL := Lib.hid hl
    have d1 : decide ((n : Int) < 2) = true := by simp; omega
    clear hO hdd hl h2
    go_enter Tryd.func39, Tryd.ntmps39
    go_wp2
    go_ret
    exact ⟨A, n, rfl, by rw [HD.out, HL.out], by rw [HD.out]; exact HO.out, (Below.refl _ w).mono hb⟩
  · have d1 : decide ((n : Int) < 2) = false := by simp; omega
    obtain ⟨g, cap, hv, hg, hlt⟩ := hO.form (by omega)
    have hA : A = some ⟨g, 0, none⟩ := by injection hv
    subst hA
    have hcap := own_cap hO
    have hcell : ∀ i, i < n → w.cell? ⟨g, i, none⟩ = some (.string l[i]!) := fun i hi => by
      have h1 := hO.cellAt i (by omega)
      have h3 := rowsV_at (enc := strK) (k := 1) (fun _ => rfl) l i (by omega) 0 (by decide)
      rw [Nat.mul_one, Nat.add_zero] at h3
      rw [h1, h3, ← getElem!_pos l i (by omega)]; rfl
    have HO := Lib.hid hO
    have HL := Lib.hid hl
    have HC := Lib.hid hcell
    obtain ⟨hc1, hc2⟩ := hcap
    clear hO hv hcell
    go_enter Tryd.func39, Tryd.ntmps39
    go_wp2_with fail
    go_loopw [3, 4, 5] (fun t3 _ _ wr => ∃ k : Nat, 1 ≤ k ∧ k ≤ n ∧ t3 = .int .i64 (k : Int) ∧ Hid (∀ i, 1 ≤ i → i < k → l[i]! ≠ l[i - 1]!) ∧ ∃ q, wr = w.drewN q) (fun t3 _ _ _ => n - (intOf t3).toNat)
    case atStart => exact ⟨1, by omega, by omega, rfl, Lib.hid (fun i h1 h3 => by omega), 0, rfl⟩
    case round =>
      obtain ⟨k, hk1, hk, rfl, HD, q, rfl⟩ := hrel
      have hk0 : (0 : Int) ≤ (k : Int) := by omega
      by_cases hkn : k < n
      · have hkn' : (k : Int) < (n : Int) := by omega
        have x0 := HC.out k hkn
        have x1 := HC.out (k - 1) (by omega)
        obtain ⟨p, hp⟩ : ∃ p, k - 1 = p := ⟨_, rfl⟩
        rw [hp] at x1
        have hw : IntKind.i64.wrap ((k : Int) - 1) = (p : Int) := by rw [IntWalk.i64_in _ (by omega)]; omega
        have hp0 : (0 : Int) ≤ (p : Int) := by omega
        have hpn : (p : Int) < (n : Int) := by omega
        have HP := Lib.hid hp
        clear hp
        obtain ⟨X, hX⟩ : ∃ X, l[k]! = X := ⟨_, rfl⟩
        obtain ⟨Y, hY⟩ : ∃ Y, l[p]! = Y := ⟨_, rfl⟩
        rw [hX] at x0
        rw [hY] at x1
        have HXY := Lib.hid (And.intro hX hY)
        clear hX hY
        by_cases hxy : X = Y
        · have e1 : (X.toList == Y.toList) = true := by rw [hxy]; simp
          have HE := Lib.hid hxy
          clear hxy
          have hne : ¬ c = k := by omega
          have hkc : (k : Int) ≤ (n : Int) := by omega
          have hkc2 : (k : Int) ≤ (c : Int) := by omega
          have hnc : (n : Int) ≤ (c : Int) := by omega
          have hsl : ∀ W, (Instr.slice 64 (.slice (some ⟨g, 0, none⟩) n c) (some (.int .i64 (k : Int))) none none).run Tryd.prog W = .ok (.slice (some ⟨g, k, none⟩) (n - k) (c - k)) W := fun W => by
            go_simp
          have HIn := Lib.hid (show l.take k = ddN (fun i => l[i]!) (k + 1) by
            rw [ddN, if_pos ⟨hk1, by show l[k]! = l[k - 1]!; rw [HP.out, HXY.out.1, HXY.out.2, HE.out]⟩, ddN_take (by rw [HL.out]; omega) HD.out])
          have hstart : ∀ q', Below base w (w.drewN q') := fun q' => below_drewN ((Below.refl _ w).mono hb) _
          have HStart := Lib.hid hstart
          obtain ⟨nk, hnk⟩ : ∃ nk, n - k = nk := ⟨_, rfl⟩
          rw [hnk] at hsl
          have HNK := Lib.hid hnk
          clear hstart hne hnk x0 x1 e1
          have e1 : (X.toList == Y.toList) = true := by rw [HE.out]; simp
          have x0 := HC.out k hkn
          have x1 := HC.out p (by omega)
          rw [HXY.out.1] at x0
          rw [HXY.out.2] at x1
          go_wp2_with fail
          go_quiet (fail)
          go_wp2_with fail
          go_loopw [3, 5] (fun t3 t5 wr => ∃ (m i : Nat) (cur : List ByteArray), 1 ≤ m ∧ m ≤ nk ∧ t5 = .int .i64 (m : Int) ∧ t3 = .int .i64 (i : Int) ∧ 1 ≤ i ∧ i + 1 ≤ k + m ∧ Hid (cur.length = n) ∧ Hid (wr.ownsRow base 9 1 (.slice (some ⟨g, 0, none⟩) n c) n (strsK cur)) ∧ Hid (cur.take i = ddN (fun i => l[i]!) (k + m)) ∧ Hid (∀ j, k + m ≤ j + 1 → j < n → cur[j]! = l[j]!) ∧ Below base w wr) (fun _ t5 _ => nk - (intOf t5).toNat)
          case atStart => exact ⟨1, k, l, by omega, by have := HNK.out; omega, rfl, rfl, by omega, by omega, HL, Lib.hid HO.out, HIn, Lib.hid (fun _ _ _ => rfl), HStart.out _⟩
          case round =>
            obtain ⟨m, i, cur, hm1, hm, rfl, rfl, hi1, hi, HCl, HOw, HTk, HRs, hbr⟩ := hrel
            have hm0 : (0 : Int) ≤ (m : Int) := by omega
            have hi0 : (0 : Int) ≤ (i : Int) := by omega
            by_cases hmn : m < nk
            · have hkm : k + m < n := by have := HNK.out; omega
              have hmn' : (m : Int) < (nk : Int) := by omega
              have hcur : ∀ j, k + m ≤ j + 1 → j < n → wr.cell? ⟨g, j, none⟩ = some (.string l[j]!) := fun j h1 h3 => by
                have q1 := HOw.out.cellAt j (by omega)
                have q3 := rowsV_at (enc := strK) (k := 1) (fun _ => rfl) cur j (by rw [HCl.out]; exact h3) 0 (by decide)
                rw [Nat.mul_one, Nat.add_zero] at q3
                rw [q1, q3, ← HRs.out j h1 h3, getElem!_pos cur j (by rw [HCl.out]; exact h3)]; rfl
              have y0 := hcur (k + m) (by omega) hkm
              obtain ⟨r, hr⟩ : ∃ r, m - 1 = r := ⟨_, rfl⟩
              have y1 := hcur (k + r) (by omega) (by omega)
              have hw2 : IntKind.i64.wrap ((m : Int) - 1) = (r : Int) := by rw [IntWalk.i64_in _ (by omega)]; omega
              have hr0 : (0 : Int) ≤ (r : Int) := by omega
              have hrn : (r : Int) < (nk : Int) := by omega
              have HRr := Lib.hid hr
              have hin : (i : Int) < (n : Int) := by omega
              obtain ⟨X2, hX2⟩ : ∃ X2, l[k + m]! = X2 := ⟨_, rfl⟩
              obtain ⟨Y2, hY2⟩ : ∃ Y2, l[k + r]! = Y2 := ⟨_, rfl⟩
              rw [hX2] at y0
              rw [hY2] at y1
              have HXY2 := Lib.hid (And.intro hX2 hY2)
              clear hcur hr hX2 hY2 x0 x1
              by_cases hq : X2 = Y2
              · have f1 : (X2.toList != Y2.toList) = false := by rw [hq]; simp
                have f2 : (X2.toList == Y2.toList) = true := by rw [hq]; simp
                have HTk2 := Lib.hid (show cur.take i = ddN (fun i => l[i]!) (k + (m + 1)) by
                  rw [show k + (m + 1) = k + m + 1 by omega, ddN, if_pos ⟨by omega, by show l[k + m]! = l[k + m - 1]!; rw [show k + m - 1 = k + r by have := HRr.out; omega, HXY2.out.1, HXY2.out.2, hq]⟩]
                  exact HTk.out)
                have HQ := Lib.hid hq
                clear hq
                go_wp2_with fail
                go_quiet (fail)
                go_wp2_with fail
                go_roundw
                case rel => exact ⟨m + 1, i, cur, by omega, by omega, by go_num, rfl, hi1, by omega, HCl, HOw, HTk2, Lib.hid (fun j h1 h3 => HRs.out j (by omega) h3), below_drewN hbr _⟩
                case measure => simp [intOf]; omega
              · have f1 : (X2.toList != Y2.toList) = true := by
                  have : ¬ X2.toList = Y2.toList := fun h => hq (ba_ext h)
                  simpa using this
                have f2 : (X2.toList == Y2.toList) = false := by rw [beq_eq_false_iff_ne]; exact fun h => hq (ba_ext h)
                have hil : i < cur.length := by rw [HCl.out]; omega
                have HTk2 := Lib.hid (show (cur.set i X2).take (i + 1) = ddN (fun i => l[i]!) (k + (m + 1)) by
                  rw [show k + (m + 1) = k + m + 1 by omega, ddN, if_neg (fun h => hq (by
                    have e := h.2
                    have e : l[k + m]! = l[k + m - 1]! := e
                    rw [show k + m - 1 = k + r by have := HRr.out; omega, HXY2.out.1, HXY2.out.2] at e
                    exact e)), ← HTk.out, List.set_eq_take_append_cons_drop, if_pos hil]
                  rw [show cur.take i ++ X2 :: cur.drop (i + 1) = (cur.take i ++ [X2]) ++ cur.drop (i + 1) by simp]
                  rw [show [l[k + m]!] = [X2] by rw [HXY2.out.1]]
                  exact List.take_left' (by rw [List.length_append, List.length_take, List.length_singleton]; omega))
                have hcx := HOw.out.cellAt i (by omega)
                have q3 := rowsV_at (enc := strK) (k := 1) (fun _ => rfl) cur i hil 0 (by decide)
                rw [Nat.mul_one, Nat.add_zero] at q3
                have hcx2 : wr.cell? ⟨g, i, none⟩ = some (.string cur[i]) := by rw [hcx, q3]; rfl
                have hfr := HOw.out.frozenAt i
                have hst := HOw.out.stored i (.string X2)
                have hset : (strsK cur).set i (.string X2) = strsK (cur.set i X2) := by
                  have := rowsV_cell (enc := strK) (k := 1) (fun _ => rfl) cur i hil 0 (by decide) (.string X2) X2 (by rfl)
                  rw [Nat.mul_one, Nat.add_zero] at this
                  exact this
                rw [hset] at hst
                have HSt := Lib.hid hst.1
                have HBr2 := Lib.hid (hbr.setCell (p := ⟨g, i, none⟩) hg (.string X2))
                have HRs2 := Lib.hid (show ∀ j, k + (m + 1) ≤ j + 1 → j < n → (cur.set i X2)[j]! = l[j]! from fun j h1 h3 => by
                  rw [← HRs.out j (by omega) h3]
                  have hij : i ≠ j := by omega
                  simp [List.getElem!_eq_getElem?_getD, List.getElem?_set_ne hij])
                have HCl2 := Lib.hid (show (cur.set i X2).length = n by rw [List.length_set]; exact HCl.out)
                have hwi : IntKind.i64.wrap ((i : Int) + 1) = (i : Int) + 1 := IntWalk.i64_in _ (by omega)
                clear hcx q3 hst hset hq
                go_wp2_with fail
                go_quiet (fail)
                go_wp2_with fail
                go_roundw
                case rel => exact ⟨m + 1, i + 1, cur.set i X2, by omega, by omega, by go_num, by go_num, by omega, by omega, HCl2, Lib.hid HSt.out, HTk2, HRs2, below_drewN HBr2.out _⟩
                case measure => simp [intOf]; omega
            · obtain rfl : m = nk := by omega
              have hkmn : k + m = n := by have := HNK.out; omega
              have hle := ddN_len (fun i => l[i]!) (k + m)
              have hln : (cur.take i).length = i := by rw [List.length_take, HCl.out]; omega
              have hin : i < n := by omega
              have hne : ¬ c = i := by omega
              have hic : (i : Int) ≤ (n : Int) := by omega
              have hic2 : (i : Int) ≤ (c : Int) := by omega
              have hsl2 : ∀ W, (Instr.slice 64 (.slice (some ⟨g, 0, none⟩) n c) (some (.int .i64 (i : Int))) none none).run Tryd.prog W = .ok (.slice (some ⟨g, i, none⟩) (n - i) (c - i)) W := fun W => by
                clear hkmn hln hle
                go_simp
              have hO2 := own_take HOw.out (q := i) (by omega)
              rw [Nat.mul_one, show (strsK cur).take i = strsK (cur.take i) by have := rowsV_take (enc := strK) (k := 1) (fun _ => rfl) i cur (by rw [HCl.out]; omega); rw [Nat.mul_one] at this; exact this] at hO2
              have HO2 := Lib.hid hO2
              have HLn := Lib.hid hln
              have HKm := Lib.hid hkmn
              have HBr3 := Lib.hid hbr
              obtain ⟨i0, J0, J1, J2, J3⟩ := info_parts str_info9
              clear hne hO2 hle hln hkmn x0 x1
              go_wp2_with (refine wpList_clear_tail rfl (.tmp 56) 64 rfl i0 _ Tryd.underlying64 J0 J1 rfl (by simp [Value.cells, Value.oneCell']) HO2.out (n - i) (c - i) (by omega) ⟨g, i, none⟩ (fun _ => show (⟨g, i, none⟩ : Addr) = ⟨g, i * 1, none⟩ by rw [Nat.mul_one]) rfl ?_; intro w2 hown2 hg2)
              go_ret
              have hdd : ddN (fun i => l[i]!) n = cur.take i := by rw [HTk.out, HKm.out]
              exact ⟨some ⟨g, 0, none⟩, i, rfl, by rw [hdd, HLn.out], by rw [hdd]; exact hown2, HBr3.out.grown hg2 (Nat.le_trans hb HBr3.out.size) (fun k' hk' => by injection hk' with hk'; omega)⟩
        · have e1 : (X.toList == Y.toList) = false := by
            rw [beq_eq_false_iff_ne]; exact fun h => hxy (ba_ext h)
          have HD2 := Lib.hid (show ∀ i, 1 ≤ i → i < k + 1 → l[i]! ≠ l[i - 1]! from fun i h1 h3 => by
            by_cases e : i = k
            · subst e; rw [HP.out, HXY.out.1, HXY.out.2]; exact hxy
            · exact HD.out i h1 (by omega))
          clear hxy
          go_wp2_with fail
          go_quiet (fail)
          go_wp2_with fail
          go_roundw
          case rel => exact ⟨k + 1, by omega, by omega, by go_num, HD2, _, rfl⟩
          case measure => simp [intOf]; omega
      · obtain rfl : k = n := by omega
        have HDD := Lib.hid (show ddN (fun i => l[i]!) k = l by rw [ddN_take (by rw [HL.out]; exact Nat.le_refl _) HD.out, ← HL.out, List.take_length])
        go_wp2_with fail
        go_ret
        exact ⟨_, k, rfl, by rw [HDD.out, HL.out], by rw [HDD.out]; exact HO.out, below_drewN ((Below.refl _ w).mono hb) _⟩
end Go.Proofs.YtojnojjiblcmcaaDoor
