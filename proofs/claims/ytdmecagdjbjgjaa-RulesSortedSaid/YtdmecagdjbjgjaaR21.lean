/- slices.Compact of an own row of alerts. -/
import Derived.Test.YtdmecagdjbjgjaaR20
import Derived.Test.YtdmecagdjbjgjaaR18
import Derived.Test.YtdmecagdjbjgjaaDel
import Derived.Test.YtdmecagdjbjgjaaRw
namespace Go.Proofs.Ytdmecagdjbjgjaa
open Go.RowKit

theorem own_take {w : World} {base g n cap k q : Nat} {e : TypeId} {xs : List Value} (h : w.ownsRow base e k (.slice (some ⟨g, 0, none⟩) n cap) n xs) (hq : q ≤ n) : w.ownsRow base e k (.slice (some ⟨g, 0, none⟩) q cap) q (xs.take (q * k)) := by
  rcases h.2 with ⟨h', _⟩ | ⟨g', cap', cur, h', hb, hg, hnc, hcm, hcs, htake⟩
  · simp at h'
  · simp only [Value.slice.injEq, Option.some.injEq, Addr.mk.injEq, and_true, true_and] at h'
    obtain ⟨rfl, rfl⟩ := h'
    have hl := h.1
    have hqk : q * k ≤ n * k := Nat.mul_le_mul_right k hq
    refine ⟨by rw [List.length_take, hl]; omega, .inr ⟨g, cap, cur, rfl, hb, hg, by omega, hcm, hcs, ?_⟩⟩
    rw [← htake, List.take_take, Nat.min_eq_left hqk]

section
variable {w : World} {base k g n cap : Nat} {e : TypeId}
/-- Behind the second copy. -/
theorem own_put {ys x : List Value} (h : w.ownsRow base e k (.slice (some ⟨g, 0, none⟩) n cap) n ys) (i : Nat) (hi : i < n) (hx : x.length = k) :
    (w.setCells g (i * k) x).ownsRow base e k (.slice (some ⟨g, 0, none⟩) n cap) n (ys.take (i * k) ++ x ++ ys.drop ((i + 1) * k)) := by
  have hyl : ys.length = n * k := h.1
  obtain ⟨_, _, _, hnc, _⟩ := own_cur h
  have e1 : (i + 1) * k ≤ n * k := Nat.mul_le_mul_right k (by omega)
  have e2 : (i + 1) * k = i * k + k := by rw [Nat.add_mul, Nat.one_mul]
  have e4 : n * k ≤ cap * k := Nat.mul_le_mul_right k hnc
  refine own_write h _ _ (by omega) n hnc _ (by rw [List.length_append, List.length_append, List.length_take, List.length_drop, hyl, hx]; omega) (fun p hp => ?_) (fun p hp _ => hp)
  by_cases c : p < i * k
  · rw [List.append_assoc, List.getElem?_append_left (by rw [List.length_take]; omega), List.getElem?_take, if_pos c, if_neg (by omega)]
  · by_cases c2 : p < (i + 1) * k
    · rw [List.append_assoc, List.getElem?_append_right (by rw [List.length_take]; omega), List.length_take, Nat.min_eq_left (by omega), List.getElem?_append_left (by omega), if_pos (by omega)]
    · rw [List.getElem?_append_right (by rw [List.length_append, List.length_take]; omega), List.getElem?_drop, if_neg (by omega)]
      congr 1
      rw [List.length_append, List.length_take]; omega
end

/-- The first k of f's alerts, each that is like the one ahead left out. -/
def ddN (f : Nat → Al) : Nat → List Al
  | 0 => []
  | k + 1 => if 1 ≤ k ∧ f k = f (k - 1) then ddN f k else ddN f k ++ [f k]
theorem ddN_take {l : List Al} : ∀ {k : Nat}, k ≤ l.length → (∀ i, 1 ≤ i → i < k → l[i]! ≠ l[i - 1]!) → ddN (fun i => l[i]!) k = l.take k
  | 0, _, _ => rfl
  | k + 1, hk, h => by
    rw [ddN, if_neg (fun hh => h k hh.1 (by omega) hh.2), ddN_take (by omega) (fun i h1 h2 => h i h1 (by omega)), List.take_succ_eq_append_getElem (by omega), getElem!_pos l k (by omega)]
theorem ddN_len (f : Nat → Al) : ∀ k, (ddN f k).length ≤ k
  | 0 => Nat.le_refl _
  | k + 1 => by
    have := ddN_len f k
    unfold ddN
    split
    · omega
    · rw [List.length_append, List.length_singleton]; omega

theorem own_cellA {w : World} {base n c g : Nat} {l : List Al} (h : w.ownsRow base 51 4 (.slice (some ⟨g, 0, none⟩) n c) n (rowsV alL l)) (hl : l.length = n) (i : Nat) (hi : i < n) (j : Nat) (v : Value) (hv : (alL l[i]!)[j]? = some v) : w.cell? ⟨g, i * 4 + j, none⟩ = some v := by
  have hj : j < 4 := by rw [← alL_len l[i]!]; exact (List.getElem?_eq_some_iff.1 hv).1
  have h1 := h.cellAt (i * 4 + j) (by omega)
  have h3 := rowsV_at alL_len l i (by omega) j hj
  rw [h1, h3, ← getElem!_pos l i (by omega)]
  exact hv

set_option maxRecDepth 100000 in
set_option maxHeartbeats 4000000 in
theorem Compact_any (base n c : Nat) (A : Option Addr) (l : List Al) (w : World) (hO : w.ownsRow base 51 4 (.slice A n c) n (rowsV alL l)) (hl : l.length = n) (hb : base ≤ w.heap.size) (hn : n ≤ 100000) :
    Calls Try.prog 38 #[.slice A n c] w fun e w' => ∃ A' q, e = .returned (.slice A' q c) ∧ q = (ddN (fun i => l[i]!) n).length ∧ w'.ownsRow base 51 4 (.slice A' q c) q (rowsV alL (ddN (fun i => l[i]!) n)) ∧ Below base w w' := by
  by_cases h2 : n < 2
  · have hdd : ddN (fun i => l[i]!) n = l := by
      have := ddN_take (l := l) (k := n) (by omega) (fun i h1 h3 => by omega)
      rw [this, ← hl, List.take_length]
    have HO := Lib.hid hO
    have HD := Lib.hid hdd
    have HL := Lib.hid hl
    have d1 : decide ((n : Int) < 2) = true := by simp; omega
    clear hO hdd hl h2
    go_enter Try.func38, Try.ntmps38
    go_wp2
    go_ret
    exact ⟨A, n, rfl, by rw [HD.out, HL.out], by rw [HD.out]; exact HO.out, (Below.refl _ w).mono hb⟩
  · have d1 : decide ((n : Int) < 2) = false := by simp; omega
    obtain ⟨g, cap, hv, hg, hlt⟩ := hO.form (by omega)
    have hA : A = some ⟨g, 0, none⟩ := by injection hv
    subst hA
    have hcap := own_cap hO
    have hcell : ∀ i, i < n → ∀ j v, (alL l[i]!)[j]? = some v → w.cell? ⟨g, i * 4 + j, none⟩ = some v := fun i hi j v hv => own_cellA hO hl i hi j v hv
    have HO := Lib.hid hO
    have HL := Lib.hid hl
    have HC := Lib.hid hcell
    obtain ⟨hc1, hc2⟩ := hcap
    clear hO hv hcell
    go_enter Try.func38, Try.ntmps38
    go_wp2_with fail
    go_loopw [3, 4, 5] (fun t3 _ _ wr => ∃ k : Nat, 1 ≤ k ∧ k ≤ n ∧ t3 = .int .i64 (k : Int) ∧ Hid (∀ i, 1 ≤ i → i < k → l[i]! ≠ l[i - 1]!) ∧ ∃ q, wr = w.drewN q) (fun t3 _ _ _ => n - (intOf t3).toNat)
    case atStart => exact ⟨1, by omega, by omega, rfl, Lib.hid (fun i h1 h3 => by omega), 0, rfl⟩
    case round =>
      obtain ⟨k, hk1, hk, rfl, HD, q, rfl⟩ := hrel
      have hk0 : (0 : Int) ≤ (k : Int) := by omega
      by_cases hkn : k < n
      · have hkn' : (k : Int) < (n : Int) := by omega
        have x0 := HC.out k hkn
        have x1 := HC.out (k - 1) (by omega)
        have HQ := Lib.hid (fun W => run_eqA l[k]! l[k - 1]! W)
        obtain ⟨p, hp⟩ : ∃ p, k - 1 = p := ⟨_, rfl⟩
        rw [hp] at x1 HQ
        have hw : IntKind.i64.wrap ((k : Int) - 1) = (p : Int) := by rw [IntWalk.i64_in _ (by omega)]; omega
        have hp0 : (0 : Int) ≤ (p : Int) := by omega
        have hpn : (p : Int) < (n : Int) := by omega
        have HP := Lib.hid hp
        clear hp
        obtain ⟨X, hX⟩ : ∃ X, l[k]! = X := ⟨_, rfl⟩
        obtain ⟨Y, hY⟩ : ∃ Y, l[p]! = Y := ⟨_, rfl⟩
        rw [hX] at x0 HQ
        rw [hY] at x1 HQ
        have HXY := Lib.hid (And.intro hX hY)
        clear hX hY
        obtain ⟨p1, p2, p3, p4⟩ := X
        obtain ⟨q1, q2, q3, q4⟩ := Y
        have r0 : w.cell? ⟨g, k * 4, none⟩ = some (.string p1) := x0 0 _ rfl
        have r1 : w.cell? ⟨g, k * 4 + 1, none⟩ = some (.int .i64 p2) := x0 1 _ rfl
        have r2 : w.cell? ⟨g, k * 4 + 2, none⟩ = some (.int .i64 p3) := x0 2 _ rfl
        have r3 : w.cell? ⟨g, k * 4 + 3, none⟩ = some (.int .i64 p4) := x0 3 _ rfl
        have s0 : w.cell? ⟨g, p * 4, none⟩ = some (.string q1) := x1 0 _ rfl
        have s1 : w.cell? ⟨g, p * 4 + 1, none⟩ = some (.int .i64 q2) := x1 1 _ rfl
        have s2 : w.cell? ⟨g, p * 4 + 2, none⟩ = some (.int .i64 q3) := x1 2 _ rfl
        have s3 : w.cell? ⟨g, p * 4 + 3, none⟩ = some (.int .i64 q4) := x1 3 _ rfl
        clear x0 x1
        have hbe := HQ.out
        dsimp only at hbe
        by_cases hxy : (⟨p1, p2, p3, p4⟩ : Al) = ⟨q1, q2, q3, q4⟩
        · rw [decide_eq_true hxy] at hbe
          have HE := Lib.hid hxy
          clear hxy
          have hne : ¬ c = k := by omega
          have hkc : (k : Int) ≤ (n : Int) := by omega
          have hkc2 : (k : Int) ≤ (c : Int) := by omega
          have hnc : (n : Int) ≤ (c : Int) := by omega
          have hsl : ∀ W, (Instr.slice 35 (.slice (some ⟨g, 0, none⟩) n c) (some (.int .i64 (k : Int))) none none).run Try.prog W = .ok (.slice (some ⟨g, k * 4, none⟩) (n - k) (c - k)) W := fun W => by
            go_simp
          have HIn := Lib.hid (show l.take k = ddN (fun i => l[i]!) (k + 1) by
            rw [ddN, if_pos ⟨hk1, by show l[k]! = l[k - 1]!; rw [HP.out, HXY.out.1, HXY.out.2, HE.out]⟩, ddN_take (by rw [HL.out]; omega) HD.out])
          have hstart : ∀ q', Below base w (w.drewN q') := fun q' => below_drewN ((Below.refl _ w).mono hb) _
          have HStart := Lib.hid hstart
          obtain ⟨nk, hnk⟩ : ∃ nk, n - k = nk := ⟨_, rfl⟩
          rw [hnk] at hsl
          have HNK := Lib.hid hnk
          clear hstart hne hnk
          go_wp2_with fail
          go_quiet (fail)
          go_wp2_with fail
          go_loopw [3, 5] (fun t3 t5 wr => ∃ (m i : Nat) (cur : List Al), 1 ≤ m ∧ m ≤ nk ∧ t5 = .int .i64 (m : Int) ∧ t3 = .int .i64 (i : Int) ∧ 1 ≤ i ∧ i + 1 ≤ k + m ∧ Hid (cur.length = n) ∧ Hid (wr.ownsRow base 51 4 (.slice (some ⟨g, 0, none⟩) n c) n (rowsV alL cur)) ∧ Hid (cur.take i = ddN (fun i => l[i]!) (k + m)) ∧ Hid (∀ j, k + m ≤ j + 1 → j < n → cur[j]! = l[j]!) ∧ Below base w wr) (fun _ t5 _ => nk - (intOf t5).toNat)
          case atStart => exact ⟨1, k, l, by omega, by have := HNK.out; omega, rfl, rfl, by omega, by omega, HL, Lib.hid HO.out, HIn, Lib.hid (fun _ _ _ => rfl), HStart.out _⟩
          case round =>
            obtain ⟨m, i, cur, hm1, hm, rfl, rfl, hi1, hi, HCl, HOw, HTk, HRs, hbr⟩ := hrel
            have hm0 : (0 : Int) ≤ (m : Int) := by omega
            have hi0 : (0 : Int) ≤ (i : Int) := by omega
            by_cases hmn : m < nk
            · have hkm : k + m < n := by have := HNK.out; omega
              have hmn' : (m : Int) < (nk : Int) := by omega
              have hcur : ∀ u, k + m ≤ k + u + 1 → k + u < n → ∀ j v, (alL l[k + u]!)[j]? = some v → wr.cell? ⟨g, k * 4 + u * 4 + j, none⟩ = some v := fun u h1 h3 j v hv => by
                rw [← Nat.add_mul]
                exact own_cellA HOw.out HCl.out (k + u) h3 j v (by rw [HRs.out _ h1 h3]; exact hv)
              have y0 := hcur m (by omega) hkm
              have HQ2 := Lib.hid (fun W => run_eqA l[k + m]! l[k + (m - 1)]! W)
              obtain ⟨r, hr⟩ : ∃ r, m - 1 = r := ⟨_, rfl⟩
              have y1 := hcur r (by omega) (by omega)
              rw [hr] at HQ2
              have hw2 : IntKind.i64.wrap ((m : Int) - 1) = (r : Int) := by rw [IntWalk.i64_in _ (by omega)]; omega
              have hr0 : (0 : Int) ≤ (r : Int) := by omega
              have hrn : (r : Int) < (nk : Int) := by omega
              have HRr := Lib.hid hr
              have hin : (i : Int) < (n : Int) := by omega
              obtain ⟨X2, hX2⟩ : ∃ X2, l[k + m]! = X2 := ⟨_, rfl⟩
              obtain ⟨Y2, hY2⟩ : ∃ Y2, l[k + r]! = Y2 := ⟨_, rfl⟩
              rw [hX2] at y0 HQ2
              rw [hY2] at y1 HQ2
              have HXY2 := Lib.hid (And.intro hX2 hY2)
              clear hcur hr hX2 hY2 r0 r1 r2 r3 s0 s1 s2 s3 hbe
              obtain ⟨u1, u2, u3, u4⟩ := X2
              obtain ⟨v1, v2, v3, v4⟩ := Y2
              have c0 : wr.cell? ⟨g, k * 4 + m * 4, none⟩ = some (.string u1) := y0 0 _ rfl
              have c1 : wr.cell? ⟨g, k * 4 + m * 4 + 1, none⟩ = some (.int .i64 u2) := y0 1 _ rfl
              have c2 : wr.cell? ⟨g, k * 4 + m * 4 + 2, none⟩ = some (.int .i64 u3) := y0 2 _ rfl
              have c3 : wr.cell? ⟨g, k * 4 + m * 4 + 3, none⟩ = some (.int .i64 u4) := y0 3 _ rfl
              have d0 : wr.cell? ⟨g, k * 4 + r * 4, none⟩ = some (.string v1) := y1 0 _ rfl
              have d1 : wr.cell? ⟨g, k * 4 + r * 4 + 1, none⟩ = some (.int .i64 v2) := y1 1 _ rfl
              have d2 : wr.cell? ⟨g, k * 4 + r * 4 + 2, none⟩ = some (.int .i64 v3) := y1 2 _ rfl
              have d3 : wr.cell? ⟨g, k * 4 + r * 4 + 3, none⟩ = some (.int .i64 v4) := y1 3 _ rfl
              clear y0 y1
              have hbe2 := HQ2.out
              dsimp only at hbe2
              by_cases hq : (⟨u1, u2, u3, u4⟩ : Al) = ⟨v1, v2, v3, v4⟩
              · rw [decide_eq_true hq] at hbe2
                have HTk2 := Lib.hid (show cur.take i = ddN (fun i => l[i]!) (k + (m + 1)) by
                  rw [show k + (m + 1) = k + m + 1 by omega, ddN, if_pos ⟨by omega, by show l[k + m]! = l[k + m - 1]!; rw [show k + m - 1 = k + r by have := HRr.out; omega, HXY2.out.1, HXY2.out.2, hq]⟩]
                  exact HTk.out)
                have HQ := Lib.hid hq
                clear hq
                go_wp2_with fail
                go_quiet (fail)
                go_wp2_with fail
                go_roundw
                case rel => exact ⟨m + 1, i, cur, by omega, by omega, by go_num, rfl, hi1, by omega, HCl, HOw, HTk2, Lib.hid (fun j h1 h3 => HRs.out j (by omega) h3), below_drewN hbr _⟩
                case measure => simp [intOf]; omega
              · rw [decide_eq_false hq] at hbe2
                obtain ⟨X2, hX2⟩ : ∃ X2, (⟨u1, u2, u3, u4⟩ : Al) = X2 := ⟨_, rfl⟩
                have HXY3 := HXY2.out
                rw [hX2] at HXY3 hq
                have hil : i < cur.length := by rw [HCl.out]; omega
                have HTk2 := Lib.hid (show (cur.set i X2).take (i + 1) = ddN (fun i => l[i]!) (k + (m + 1)) by
                  rw [show k + (m + 1) = k + m + 1 by omega, ddN, if_neg (fun h => hq (by
                    have e := h.2
                    have e : l[k + m]! = l[k + m - 1]! := e
                    rw [show k + m - 1 = k + r by have := HRr.out; omega, HXY3.1, HXY3.2] at e
                    exact e)), ← HTk.out, List.set_eq_take_append_cons_drop, if_pos hil]
                  rw [show cur.take i ++ X2 :: cur.drop (i + 1) = (cur.take i ++ [X2]) ++ cur.drop (i + 1) by simp]
                  rw [show [l[k + m]!] = [X2] by rw [HXY3.1]]
                  exact List.take_left' (by rw [List.length_append, List.length_take, List.length_singleton]; omega))
                have hcx : ∀ j v, (alL cur[i]!)[j]? = some v → wr.cell? ⟨g, i * 4 + j, none⟩ = some v := fun j v hv => own_cellA HOw.out HCl.out i (by omega) j v hv
                have w0 : wr.cell? ⟨g, i * 4, none⟩ = some (.string cur[i]!.r) := hcx 0 _ rfl
                have w1 : wr.cell? ⟨g, i * 4 + 1, none⟩ = some (.int .i64 cur[i]!.l) := hcx 1 _ rfl
                have w2 : wr.cell? ⟨g, i * 4 + 2, none⟩ = some (.int .i64 cur[i]!.a) := hcx 2 _ rfl
                have w3 : wr.cell? ⟨g, i * 4 + 3, none⟩ = some (.int .i64 cur[i]!.b) := hcx 3 _ rfl
                have hfr := HOw.out.frozenAt
                have fr0 := hfr (i * 4)
                have fr1 := hfr (i * 4 + 1)
                have fr2 := hfr (i * 4 + 2)
                have fr3 := hfr (i * 4 + 3)
                have hst := own_put HOw.out i (by omega) (alL_len X2)
                rw [rowsV_put alL_len cur i hil X2] at hst
                have HSt := Lib.hid hst
                have HBr2 := Lib.hid (hbr.grown (setCells_grown g (alL X2) (i * 4) wr) (Nat.le_trans hb hbr.size) (fun k' hk' => by injection hk' with hk'; omega))
                subst hX2
                obtain ⟨C0, hC0⟩ : ∃ C, cur[i]! = C := ⟨_, rfl⟩
                rw [hC0] at w0 w1 w2 w3
                obtain ⟨z1, z2, z3, z4⟩ := C0
                dsimp only at w0 w1 w2 w3
                have HHbr := Lib.hid hbr
                clear hcx hfr hC0
                have HRs2 := Lib.hid (show ∀ j, k + (m + 1) ≤ j + 1 → j < n → (cur.set i ⟨u1, u2, u3, u4⟩)[j]! = l[j]! from fun j h1 h3 => by
                  rw [← HRs.out j (by omega) h3]
                  have hij : i ≠ j := by omega
                  simp [List.getElem!_eq_getElem?_getD, List.getElem?_set_ne hij])
                have HCl2 := Lib.hid (show (cur.set i ⟨u1, u2, u3, u4⟩).length = n by rw [List.length_set]; exact HCl.out)
                have hwi : IntKind.i64.wrap ((i : Int) + 1) = (i : Int) + 1 := IntWalk.i64_in _ (by omega)
                clear hst hq hbr HXY3
                go_wp2_with fail
                go_quiet (fail)
                go_wp2_with fail
                go_roundw
                case rel => exact ⟨m + 1, i + 1, cur.set i ⟨u1, u2, u3, u4⟩, by omega, by omega, by go_num, by go_num, by omega, by omega, HCl2, Lib.hid HSt.out, HTk2, HRs2, below_drewN HBr2.out _⟩
                case measure => simp [intOf]; omega
            · obtain rfl : m = nk := by omega
              have hkmn : k + m = n := by have := HNK.out; omega
              have hle := ddN_len (fun i => l[i]!) (k + m)
              have hln : (cur.take i).length = i := by rw [List.length_take, HCl.out]; omega
              have hin : i < n := by omega
              have hne : ¬ c = i := by omega
              have hic : (i : Int) ≤ (n : Int) := by omega
              have hic2 : (i : Int) ≤ (c : Int) := by omega
              have hsl2 : ∀ W, (Instr.slice 35 (.slice (some ⟨g, 0, none⟩) n c) (some (.int .i64 (i : Int))) none none).run Try.prog W = .ok (.slice (some ⟨g, i * 4, none⟩) (n - i) (c - i)) W := fun W => by
                clear hkmn hln hle
                go_simp
              have hO2 := own_take HOw.out (q := i) (by omega)
              rw [rowsV_take alL_len i cur (by rw [HCl.out]; omega)] at hO2
              have HO2 := Lib.hid hO2
              have HLn := Lib.hid hln
              have HKm := Lib.hid hkmn
              have HBr3 := Lib.hid hbr
              obtain ⟨i0, J0, J1, J2, J3⟩ := info_parts alert_info
              clear hne hO2 hle hln hkmn r0 r1 r2 r3 s0 s1 s2 s3 hbe
              go_wp2_with (refine wpList_clear_tail rfl (.tmp 56) 35 rfl i0 _ Try.underlying35 J0 J1 rfl (by simp [Value.cells, Value.oneCell']) HO2.out (n - i) (c - i) (by omega) ⟨g, i * 4, none⟩ (fun _ => rfl) rfl ?_; intro w2 hown2 hg2)
              go_ret
              have hdd : ddN (fun i => l[i]!) n = cur.take i := by rw [HTk.out, HKm.out]
              exact ⟨some ⟨g, 0, none⟩, i, rfl, by rw [hdd, HLn.out], by rw [hdd]; exact hown2, HBr3.out.grown hg2 (Nat.le_trans hb HBr3.out.size) (fun k' hk' => by injection hk' with hk'; omega)⟩
        · rw [decide_eq_false hxy] at hbe
          have HD2 := Lib.hid (show ∀ i, 1 ≤ i → i < k + 1 → l[i]! ≠ l[i - 1]! from fun i h1 h3 => by
            by_cases e : i = k
            · subst e; rw [HP.out, HXY.out.1, HXY.out.2]; exact hxy
            · exact HD.out i h1 (by omega))
          clear hxy
          go_wp2_with fail
          go_quiet (fail)
          go_wp2_with fail
          go_roundw
          case rel => exact ⟨k + 1, by omega, by omega, by go_num, HD2, _, rfl⟩
          case measure => simp [intOf]; omega
      · obtain rfl : k = n := by omega
        have HDD := Lib.hid (show ddN (fun i => l[i]!) k = l by rw [ddN_take (by rw [HL.out]; exact Nat.le_refl _) HD.out, ← HL.out, List.take_length])
        go_wp2_with fail
        go_ret
        exact ⟨_, k, rfl, by rw [HDD.out, HL.out], by rw [HDD.out]; exact HO.out, below_drewN ((Below.refl _ w).mono hb) _⟩
end Go.Proofs.Ytdmecagdjbjgjaa
