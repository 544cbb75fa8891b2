/- The walk of ContactHeard. -/
import Derived.Test.YtjlbhifkhbpddaaA9
import Derived.Test.YtjlbhifkhbpddaaCut
import Derived.Deep.RegionHeld3
namespace Go.Proofs.Ytjlbhifkhbpddaa
open Go.RowKit

structure GoodT (l : List Cs) : Prop where
  good : Good l
  time : ∀ x ∈ l, 0 ≤ x.2.2 ∧ x.2.2 ≤ 200000
theorem mem_put {l : List Cs} {x y : Cs} (h : y ∈ putC l x) : y = x ∨ y ∈ l := by
  unfold putC at h
  split at h
  · rcases List.mem_or_eq_of_mem_set h with h | h
    · exact .inr h
    · exact .inl h
  · rw [List.mem_append, List.mem_cons] at h
    rcases h with h | h | h
    · exact .inr (List.mem_of_mem_take h)
    · exact .inl h
    · exact .inr (List.mem_of_mem_drop h)
theorem putT {l : List Cs} (h : GoodT l) (x : Cs) (hv : validF x.2.1 = true) (hw : wrongT x.2.2 = false) : GoodT (putC l x) := by
  refine ⟨put_good h.good x hv, fun y hy => ?_⟩
  rcases mem_put hy with rfl | hy
  · unfold wrongT at hw
    simp only [Bool.or_eq_false_iff, decide_eq_false_iff_not] at hw
    omega
  · exact h.time y hy

def Tuned2 (g : Nat) (B : Nat) (k : Nat) (w wr : World) : Prop := ∃ v l, RadioAt g v l wr ∧ GoodT l ∧ l.length ≤ k ∧ Below B w wr ∧ B ≤ g

set_option maxRecDepth 100000 in
set_option maxHeartbeats 16000000 in
theorem Heard_any (A : Option Addr) (n c N : Nat) (f : Nat → Cs) (tm lm lt : Int) (w : World) (hA : Sl w w.heap.size 3 A n (fun i => csV (f i))) (hs : ∀ i, i < n → (f i).1.size ≤ maxLen) (hn : n ≤ c) (hc : c ≤ maxLen) (hnil : A = none → n = 0 ∧ c = 0) (hN : N = min n 8) :
    Calls Try.prog 4 #[.slice A n c, .int .i64 tm, .int .i64 lm, .int .i64 lt] w fun e w' => e = .returned (.bool true) ∧ Below w.heap.size w w' := by
  have hmin : min (n : Int) 8 = (N : Int) := by omega
  have hNn : N ≤ n := by omega
  have hN8 : N ≤ 8 := by omega
  have hslo := slice_to22 A n c N (by omega) hc hnil
  have HA := Lib.hid hA
  have HS := Lib.hid hs
  have b1 := cutI_bd (n := tm) (lo := 0) (hi := 500) (by omega)
  have b2 := cutI_bd (n := lm) (lo := 0) (hi := 100) (by omega)
  have b3 := cutI_bd (n := lt) (lo := 0) (hi := 100) (by omega)
  have C1 := Lib.hid (fun W => Cut_any tm 0 500 W (by omega) (by omega) (by omega))
  have C2 := Lib.hid (fun W => Cut_any lm 0 100 W (by omega) (by omega) (by omega))
  have C3 := Lib.hid (fun W => Cut_any lt 0 100 W (by omega) (by omega) (by omega))
  generalize cutI tm 0 500 = T at *
  generalize cutI lm 0 100 = L at *
  generalize cutI lt 0 100 = D at *
  obtain ⟨b11, b12⟩ := b1
  obtain ⟨b21, b22⟩ := b2
  obtain ⟨b31, b32⟩ := b3
  unfold maxLen at hc
  have tok1 : True := trivial
  have tok2 : True := trivial
  clear hA hN hs hnil
  go_enter Try.func4, Try.ntmps4
  go_wp2_with (first
    | (go_at_call 5; go_loud (refine (New_any _).mono ?_; rintro e w1 ⟨rfl, hR, hb1⟩; have HR := Lib.hid hR; have HB1 := Lib.hid hb1; clear hR hb1))
    | (go_at_call 6; go_loud (refine (Valid_any _ _).mono ?_; rintro e w2 ⟨he, rfl⟩; first | (rw [valid_low] at he; subst he) | (rw [valid_off] at he; subst he))))
  have hgz : w.heap.size < w1.heap.size := HR.out.lt
  go_loopw [34] (fun x wr => ∃ k : Nat, k ≤ N ∧ x = .int .i64 k ∧ Hid (Tuned2 w.heap.size w.heap.size k w wr)) (fun x _ => N - (intOf x).toNat)
  case atStart => exact ⟨0, by omega, rfl, Lib.hid ⟨_, _, HR.out, ⟨good_nil, fun _ h => by cases h⟩, by simp, HB1.out, Nat.le_refl _⟩⟩
  case round =>
    obtain ⟨k, hk, rfl, HT⟩ := hrel
    obtain ⟨v, l, hR1, hG1, hl1, hB1, _⟩ := HT.out
    have hbz := hB1.size
    have hrl := hR1.lt
    by_cases hkN : k < N
    · obtain ⟨b, off, rfl, hb, hr⟩ := HA.out (by omega)
      have o0 : wr.cell? ⟨b, off + k * 3, none⟩ = some (.string (f k).1) := (hB1.cell (p := ⟨b, _, none⟩) hb).trans (hr k (by omega) 0 _ rfl)
      have o1 : wr.cell? ⟨b, off + k * 3 + 1, none⟩ = some (.int .i64 (f k).2.1) := (hB1.cell (p := ⟨b, _, none⟩) hb).trans (hr k (by omega) 1 _ rfl)
      have o2 : wr.cell? ⟨b, off + k * 3 + 2, none⟩ = some (.int .i64 (f k).2.2) := (hB1.cell (p := ⟨b, _, none⟩) hb).trans (hr k (by omega) 2 _ rfl)
      have hsz := HS.out k (by omega)
      have hk0 : (0 : Int) ≤ (k : Int) := by omega
      have hk1 : (k : Int) < (N : Int) := by omega
      clear hr
      generalize hx : f k = x at *
      clear hx
      have hTu := fun o => Tune_any (hR1.alloc o) hG1.good.sorted (by omega) x hsz
      obtain ⟨xc, xf, xt⟩ := x
      dsimp only at *
      have HTu := Lib.hid hTu
      have HG1 := Lib.hid hG1
      have HB := Lib.hid hB1
      clear hTu hG1 hR1 hB1 HT
      go_wp2_with (go_at_call 7; go_loud (refine (HTu.out _).mono ?_; rintro e w2 ⟨code, v', l', rfl, hR2, hU2, hok, hno⟩; have HR2 := Lib.hid hR2; have HU2 := Lib.hid hU2; have HOK := Lib.hid hok; have HNO := Lib.hid hno; clear hR2 hU2 hok hno))
      have hB2 : Below w.heap.size w w2 := (HB.out.alloc hbz _).trans HU2.out.below
      have HB2 := Lib.hid hB2
      have hfin : Hid (Tuned2 w.heap.size w.heap.size (k + 1) w w2) := Lib.hid (by
        by_cases hco : code = 0
        · subst hco
          obtain ⟨⟨hv, hw⟩, rfl⟩ := HOK.out rfl
          have hlen := put_len l (xc, xf, xt)
          exact ⟨v', _, HR2.out, putT HG1.out _ hv hw, by omega, HB2.out, Nat.le_refl _⟩
        · have := HNO.out hco
          subst this
          exact ⟨v', _, HR2.out, HG1.out, by omega, HB2.out, Nat.le_refl _⟩)
      clear hB2 HOK HNO
      go_roundw
      case rel => exact ⟨k + 1, by omega, by go_num, hfin⟩
      case measure => simp [intOf]; omega
    · obtain rfl : N = k := by omega
      have HR1 := Lib.hid hR1
      have HG1 := Lib.hid hG1
      have HB := Lib.hid hB1
      clear hR1 hG1 hB1 HT HR HB1
      go_wp2_with (first
        | (go_at_call 12; have _t := tok1; refine (C1.out _).mono ?_; rintro e w2 ⟨rfl, rfl⟩; clear tok1)
        | (go_at_call 12; have _t := tok2; refine (C2.out _).mono ?_; rintro e w2 ⟨rfl, rfl⟩; clear tok2)
        | (go_at_call 13; go_loud (refine (Lost_any HR1.out (by omega) T L (by omega) (by omega) HG1.out.time).mono ?_; rintro e w3 ⟨LA, lc, lo, rfl, hperm, hsl3, hb3⟩; have HP3 := Lib.hid hperm; have HS3 := Lib.hid hsl3; have HB3 := Lib.hid hb3; have hz3 := hb3.size; clear hperm hsl3 hb3))
        | (go_at_call 10; go_loud (refine (List_any (HR1.out.below HB3.out) (by omega)).mono ?_; rintro e w4 ⟨MA, mc, rfl, ho4, hb4⟩; have HO4 := Lib.hid ho4; have HB4 := Lib.hid hb4; have hz4 := hb4.size; clear ho4 hb4)))
      have HM4 := Lib.hid (Sl_rows csV_len HO4.out rfl (by decide))
      have hlo : lo.length ≤ N := by
        rw [HP3.out.length_eq]
        have := lostL_le l T L l.length
        rw [List.take_length] at this
        omega
      have HR4 := Lib.hid ((HR1.out.below HB3.out).below HB4.out)
      have HL4 := Lib.hid ((HS3.out.below HB4.out).more hz4)
      have HB44 := Lib.hid (bstepB (Nat.le_refl _) (bstepB (Nat.le_refl _) HB.out HB3.out) HB4.out)
      clear HB4 HB3 HB HR1 HO4 HS3
      go_loopw [58] (fun x wr => ∃ j : Nat, j ≤ l.length ∧ x = .int .i64 j ∧ Below w4.heap.size w4 wr) (fun x _ => l.length - (intOf x).toNat)
      case atStart => exact ⟨0, by omega, rfl, Below.refl _ _⟩
      case round =>
        obtain ⟨j, hj, rfl, hbr⟩ := hrel
        obtain ⟨wo, rfl⟩ : ∃ wo : World, wo = wr := ⟨_, rfl⟩
        have hzo := hbr.size
        by_cases hjn : j < l.length
        · obtain ⟨b, off, rfl, hb, hr⟩ := HM4.out (by omega)
          have hxx : l[j]! = l[j] := getElem!_pos l j hjn
          have o0 : wo.cell? ⟨b, off + j * 3, none⟩ = some (.string (l[j]).1) := (hbr.cell (p := ⟨b, _, none⟩) hb).trans ((hr j hjn 0 _ rfl).trans (by rw [hxx]))
          have o1 : wo.cell? ⟨b, off + j * 3 + 1, none⟩ = some (.int .i64 (l[j]).2.1) := (hbr.cell (p := ⟨b, _, none⟩) hb).trans ((hr j hjn 1 _ rfl).trans (by rw [hxx]))
          have o2 : wo.cell? ⟨b, off + j * 3 + 2, none⟩ = some (.int .i64 (l[j]).2.2) := (hbr.cell (p := ⟨b, _, none⟩) hb).trans ((hr j hjn 2 _ rfl).trans (by rw [hxx]))
          have hmem : l[j] ∈ l := List.getElem_mem hjn
          have hti := HG1.out.time l[j] hmem
          have hml : memB lo l[j] = true ↔ L < T - (l[j]).2.2 := by rw [memB_iff, HP3.out.mem_iff, mem_lost hmem]
          clear hxx hr hmem
          generalize l[j] = x at *
          have hha := fun W (hs : Sl W W.heap.size 3 LA lo.length (fun i => csV lo[i]!)) => HasC_any lo.length lc LA lo x W hs rfl (by omega)
          obtain ⟨xc, xf, xt⟩ := x
          dsimp only at *
          obtain ⟨ht1, ht2⟩ := hti
          have HBR := Lib.hid hbr
          have hj0 : (0 : Int) ≤ (j : Int) := by omega
          have hjl : (j : Int) < (l.length : Int) := by omega
          have hsw : IntKind.i64.wrap (T - xt) = T - xt := IntWalk.i64_in _ (by omega)
          obtain ⟨W, hW⟩ : ∃ W, W = wo.alloc (.cells #[.string xc, .int .i64 xf, .int .i64 xt] 27) := ⟨_, rfl⟩
          have gW : W.heap[wo.heap.size]? = some (.cells #[.string xc, .int .i64 xf, .int .i64 xt] 27 (0, 0)) := by rw [hW]; exact heap_alloc_new wo _
          have hBW : Below w4.heap.size w4 W := by rw [hW]; exact hbr.alloc hbr.size _
          have q0 := cell_of_row W wo.heap.size 0 _ 27 (0, 0) gW
          have q1 := cell_of_row W wo.heap.size 1 _ 27 (0, 0) gW
          have q2 := cell_of_row W wo.heap.size 2 _ 27 (0, 0) gW
          have hlW := (Array.getElem?_eq_some_iff.1 gW).1
          have HSW := Lib.hid (show Sl W.drew W.drew.heap.size 3 LA lo.length (fun i => csV lo[i]!) from ((HL4.out.below hBW).more hBW.size).drew)
          have HBW := Lib.hid hBW
          have HEW := Lib.hid hW
          clear hbr gW hBW hW
          generalize hmv : memB lo (xc, xf, xt) = mv at *
          have HHA := Lib.hid (hha _ HSW.out)
          have hpv : mv = decide (L < T - xt) := by
            by_cases h : L < T - xt
            · rw [hml.2 h]; simp [h]
            · have : mv = false := by rw [Bool.eq_false_iff]; intro h'; exact h (hml.1 h')
              rw [this]; simp [h]
          clear hml hmv hha
          by_cases hp : L < T - xt
          · have hmt : mv = true := by rw [hpv]; simp [hp]
            subst hmt
            have hpd : decide (L < T - xt) = true := by simp [hp]
            clear hpv
            go_wp2_with fail
            rw [← HEW.out]
            go_region_held3 (fun W' => W'.cell? ⟨wo.heap.size, 0, none⟩ = some (.string xc) ∧ W'.cell? ⟨wo.heap.size, 1, none⟩ = some (.int .i64 xf) ∧ W'.cell? ⟨wo.heap.size, 2, none⟩ = some (.int .i64 xt)) (first | go_keep | ((try dsimp only); refine ⟨?_, ?_, ?_⟩ <;> go_keep) | exact ⟨e0, e1, e2⟩)
              ((go_at_call 14; go_loud (refine HHA.out.mono ?_; rintro e w5 ⟨rfl, hb5⟩; have e0 := (hb5.cell (p := ⟨wo.heap.size, 0, none⟩) hlW).trans q0; have e1 := (hb5.cell (p := ⟨wo.heap.size, 1, none⟩) hlW).trans q1; have e2 := (hb5.cell (p := ⟨wo.heap.size, 2, none⟩) hlW).trans q2; have HB5 := Lib.hid hb5; clear hb5)))
            go_wp2
            go_roundw
            case rel => exact ⟨j + 1, by omega, by go_num, HBW.out.drew.trans (HB5.out.mono HBW.out.size)⟩
            case measure => simp [intOf]; omega
          · have hmt : mv = false := by rw [hpv]; simp [hp]
            subst hmt
            have hpd : decide (L < T - xt) = false := by simp [hp]
            clear hpv
            go_wp2_with fail
            rw [← HEW.out]
            go_region_held3 (fun W' => W'.cell? ⟨wo.heap.size, 0, none⟩ = some (.string xc) ∧ W'.cell? ⟨wo.heap.size, 1, none⟩ = some (.int .i64 xf) ∧ W'.cell? ⟨wo.heap.size, 2, none⟩ = some (.int .i64 xt)) (first | go_keep | ((try dsimp only); refine ⟨?_, ?_, ?_⟩ <;> go_keep) | exact ⟨e0, e1, e2⟩)
              ((go_at_call 14; go_loud (refine HHA.out.mono ?_; rintro e w5 ⟨rfl, hb5⟩; have e0 := (hb5.cell (p := ⟨wo.heap.size, 0, none⟩) hlW).trans q0; have e1 := (hb5.cell (p := ⟨wo.heap.size, 1, none⟩) hlW).trans q1; have e2 := (hb5.cell (p := ⟨wo.heap.size, 2, none⟩) hlW).trans q2; have HB5 := Lib.hid hb5; clear hb5)))
            go_wp2
            go_roundw
            case rel => exact ⟨j + 1, by omega, by go_num, HBW.out.drew.trans (HB5.out.mono HBW.out.size)⟩
            case measure => simp [intOf]; omega
        · obtain rfl : l.length = j := by omega
          have HBR := Lib.hid hbr
          clear hbr
          go_wp2_with (first
            | (go_at_call 12; refine (C3.out _).mono ?_; rintro e w2 ⟨rfl, rfl⟩)
            | (go_at_call 13; go_loud (refine (Lost_any (HR4.out.below HBR.out) (by omega) (T + D) L (by omega) (by omega) HG1.out.time).mono ?_; rintro e w6 ⟨NA, nc, la, rfl, hperm, hsl6, hb6⟩; have HP6 := Lib.hid hperm; have HS6 := Lib.hid hsl6; have HB6 := Lib.hid hb6; have hz6 := hb6.size; clear hperm hsl6 hb6)))
          have hla : la.length ≤ N := by
            rw [HP6.out.length_eq]
            have := lostL_le l (T + D) L l.length
            rw [List.take_length] at this
            omega
          have HL6 := Lib.hid (((HL4.out.below HBR.out).more hzo).below HB6.out)
          have HB46 := Lib.hid (bstepB (Nat.le_refl _) HB44.out ((HBR.out.trans (HB6.out.mono hzo)).mono (Nat.le_refl _)))
          clear HBR HB6 HB44 HL4
          go_loopw [82] (fun x wr => ∃ i : Nat, i ≤ lo.length ∧ x = .int .i64 i ∧ Below w6.heap.size w6 wr) (fun x _ => lo.length - (intOf x).toNat)
          case atStart => exact ⟨0, by omega, rfl, Below.refl _ _⟩
          case round =>
            obtain ⟨i, hi, rfl, hbi⟩ := hrel
            by_cases hin : i < lo.length
            · obtain ⟨b, off, rfl, hb, hr⟩ := HL6.out (by omega)
              have hxx : lo[i]! = lo[i] := getElem!_pos lo i hin
              have hbw6 : b < w6.heap.size := Nat.lt_of_lt_of_le hb hz6
              have o0 : wr.cell? ⟨b, off + i * 3, none⟩ = some (.string (lo[i]).1) := (hbi.cell (p := ⟨b, _, none⟩) hbw6).trans ((hr i hin 0 _ rfl).trans (by rw [hxx]))
              have o1 : wr.cell? ⟨b, off + i * 3 + 1, none⟩ = some (.int .i64 (lo[i]).2.1) := (hbi.cell (p := ⟨b, _, none⟩) hbw6).trans ((hr i hin 1 _ rfl).trans (by rw [hxx]))
              have o2 : wr.cell? ⟨b, off + i * 3 + 2, none⟩ = some (.int .i64 (lo[i]).2.2) := (hbi.cell (p := ⟨b, _, none⟩) hbw6).trans ((hr i hin 2 _ rfl).trans (by rw [hxx]))
              have hmt : memB la lo[i] = true := by
                rw [memB_iff, HP6.out.mem_iff]
                exact lost_later (HP3.out.mem_iff.1 (List.getElem_mem hin)) (by omega)
              clear hxx hr
              generalize lo[i] = x at *
              have hha := fun W (hs : Sl W W.heap.size 3 NA la.length (fun i => csV la[i]!)) => HasC_any la.length nc NA la x W hs rfl (by omega)
              obtain ⟨xc, xf, xt⟩ := x
              dsimp only at *
              rw [hmt] at hha
              have HBI := Lib.hid hbi
              have hi0 : (0 : Int) ≤ (i : Int) := by omega
              have hil : (i : Int) < (lo.length : Int) := by omega
              have HHA := Lib.hid hha
              have HS7 := Lib.hid (fun o => (((HS6.out.below hbi).more hbi.size).below (w := wr) ((Below.refl _ wr).alloc (Nat.le_refl _) o)).more (B' := (wr.alloc o).heap.size) (by simp))
              clear hha hbi hmt
              go_wp2_with (go_at_call 14; go_loud (refine (HHA.out _ (HS7.out _)).mono ?_; rintro e w5 ⟨rfl, hb5⟩))
              go_roundw
              case rel => exact ⟨i + 1, by omega, by go_num, (HBI.out.alloc HBI.out.size _).trans (hb5.mono (Nat.le_trans HBI.out.size (by simp)))⟩
              case measure => simp [intOf]; omega
            · obtain rfl : lo.length = i := by omega
              have HBI := Lib.hid hbi
              clear hbi
              go_wp2
              go_ret
              exact ⟨rfl, HB46.out.trans (HBI.out.mono HB46.out.size)⟩
end Go.Proofs.Ytjlbhifkhbpddaa
