/- Package approach: one step of search. -/
import Derived.Test.YtmdfdjgeaemicaaE1
import Derived.Test.YtmdfdjgeaemicaaB4
namespace Go.Proofs.Ytmdfdjgeaemicaa
open Go.RowKit Go.Lib

theorem Pre.grown {its : Nat → It} {N : Nat} {A : Option Addr} {B ub cu n : Nat} {O : Option Addr} {co : Nat} {T : Option Addr} {ct : Nat} {s : List Nat} {ts : List Int} {us us' : List Bool} {w w' : World}
    (h : Pre its N A B ub cu n O co T ct s ts us w) (hg : w.grownBy w' (some ub)) (hU : w'.ownsRow B 4 1 (.slice (some ⟨ub, 0, none⟩) N cu) N (boolsV us')) : Pre its N A B ub cu n O co T ct s ts us' w' :=
  { h with hA := h.hA.gbB hg h.bB h.bU, hO := h.hO.gbN hg h.oO, hT := h.hT.gbN hg h.oT, hU := hU, bU := Nat.lt_of_lt_of_le h.bU hg.size, lu := by have := hU.1; simpa [boolsV] using this }
theorem Pre.next {its : Nat → It} {N : Nat} {A : Option Addr} {B ub cu n : Nat} {O : Option Addr} {co : Nat} {T : Option Addr} {ct c : Nat} {s : List Nat} {ts : List Int} {us : List Bool} {G : Array Value} {g : Nat → Int} {w : World}
    (h : Pre its N A B ub cu n O co T ct s ts us w) (hG : Gaps G g) (hg : ∀ i, i < 16 → gapOk (g i)) (hi : ∀ i, i < N → (its i).ok) (hN : N ≤ 6) (hn : n < N) (i : Nat) (hiN : i < N) :
    Calls Try.prog 23 #[.slice A N c, .slice O n co, .slice T n ct, .int .i64 (i : Int), .agg G] w fun e w' => e = .returned (.int .i64 (nxS g its s ts i)) ∧ Below w.heap.size w w' := by
  have hz := h.bU
  have hb := h.bB
  have := next_any A O T N c n co ct its (fun k => s[k]!) (fun k => ts[k]!) i G g w (h.hA.more (by omega)) h.hO h.hT (by omega) (by omega) hG hiN hg hi h.bs (fun k hk => by have := h.bt k hk; omega)
  unfold nxS
  rw [h.ls]
  exact this
theorem Pre.nx_bd {its : Nat → It} {N : Nat} {A : Option Addr} {B ub cu n : Nat} {O : Option Addr} {co : Nat} {T : Option Addr} {ct : Nat} {s : List Nat} {ts : List Int} {us : List Bool} {g : Nat → Int} {w : World}
    (h : Pre its N A B ub cu n O co T ct s ts us w) (hg : ∀ i, i < 16 → gapOk (g i)) (hi : ∀ i, i < N → (its i).ok) (i : Nat) (hiN : i < N) : 0 ≤ nxS g its s ts i := by
  have h1 := hi i hiN
  unfold It.ok at h1
  unfold nxS
  exact (nextT_bd (T := 200000) (by omega) (by omega) hg (fun k hk => by have := hi _ (h.bs k (by rw [← h.ls]; exact hk)); unfold It.ok at this; omega) (fun k hk => h.bt k (by rw [← h.ls]; exact hk)) _ (Nat.le_refl _)).1
theorem Pre.snoc {its : Nat → It} {N : Nat} {A : Option Addr} {B ub cu n : Nat} {O : Option Addr} {co : Nat} {T : Option Addr} {ct : Nat} {s : List Nat} {ts : List Int} {us : List Bool} {w W : World} {j : Nat} {t : Int} {g7 g14 c7 c14 : Nat}
    (h : Pre its N A B ub cu n O co T ct s ts us w) (hj : j < N) (ht : 0 ≤ t ∧ t ≤ 200000) (hg : w.grownBy W (some ub)) (hU : W.ownsRow B 4 1 (.slice (some ⟨ub, 0, none⟩) N cu) N (boolsV us))
    (h7 : W.ownsRow w.heap.size 3 1 (.slice (some ⟨g7, 0, none⟩) (n + 1) c7) (n + 1) (rowsV natV (s ++ [j]))) (h14 : W.ownsRow w.heap.size 3 1 (.slice (some ⟨g14, 0, none⟩) (n + 1) c14) (n + 1) (rowsV intV1 (ts ++ [t]))) (hg7 : w.heap.size ≤ g7) (hg14 : w.heap.size ≤ g14) :
    Pre its N A B ub cu (n + 1) (some ⟨g7, 0, none⟩) c7 (some ⟨g14, 0, none⟩) c14 (s ++ [j]) (ts ++ [t]) us W where
  hA := h.hA.gbB hg h.bB h.bU
  hO := Sl_rows (k := 1) (fun _ => rfl) h7 (by rw [List.length_append, h.ls]; rfl) (by decide)
  hT := Sl_rows (k := 1) (fun _ => rfl) h14 (by rw [List.length_append, h.lt]; rfl) (by decide)
  hU := hU
  oO := fun a ha e => by cases ha; have := h.bU; dsimp only at e; omega
  oT := fun a ha e => by cases ha; have := h.bU; dsimp only at e; omega
  nO := fun e => by cases e
  nT := fun e => by cases e
  ls := by rw [List.length_append, h.ls]; rfl
  lt := by rw [List.length_append, h.lt]; rfl
  lu := h.lu
  bs := fun k hk => snoc_get h.ls (fun x => x < N) h.bs hj hk
  bt := fun k hk => snoc_get h.lt (fun x => 0 ≤ x ∧ x ≤ 200000) h.bt ht hk
  cO := (own_cap h7).1
  cT := (own_cap h14).1
  bB := h.bB
  bU := Nat.lt_of_lt_of_le h.bU hg.size

theorem sz1 (w : World) (o : Obj) : w.heap.size ≤ (w.alloc o).drew.heap.size := by show _ ≤ (w.heap.push o).size; simp
theorem sz1n (w : World) (o : Obj) : w.heap.size ≤ (w.alloc o).heap.size := sz1 w o
theorem up1n {w w' : World} {o : Obj} (h : Below (w.alloc o).heap.size (w.alloc o) w') : Below w.heap.size w w' := ((Below.refl _ w).alloc (Nat.le_refl _) o).trans (h.mono (sz1n _ _))
theorem sz2 (w : World) (o o' : Obj) : w.heap.size ≤ ((w.alloc o).alloc o').drew.heap.size := by show _ ≤ ((w.heap.push o).push o').size; simp; omega
theorem up1 {w w' : World} {o : Obj} (h : Below (w.alloc o).drew.heap.size (w.alloc o).drew w') : Below w.heap.size w w' := (((Below.refl _ w).alloc (Nat.le_refl _) o).drew).trans (h.mono (sz1 _ _))
theorem up2 {w w' : World} {o o' : Obj} (h : Below ((w.alloc o).alloc o').drew.heap.size ((w.alloc o).alloc o').drew w') : Below w.heap.size w w' := ((((Below.refl _ w).alloc (Nat.le_refl _) o).alloc (by simp) o').drew).trans (h.mono (sz2 _ _ _))

set_option maxRecDepth 100000 in
set_option maxHeartbeats 4000000 in
theorem search_step (its : Nat → It) (N : Nat) (A : Option Addr) (cl B ub cu n : Nat) (O : Option Addr) (co : Nat) (T : Option Addr) (ct : Nat) (s : List Nat) (ts : List Int) (us : List Bool) (G : Array Value) (g : Nat → Int) (f : Nat) (w : World)
    (hP : Pre its N A B ub cu n O co T ct s ts us w) (hN : N ≤ 6) (hf : n + (f + 1) = N) (hG : Gaps G g) (hg : ∀ i, i < 16 → gapOk (g i)) (hi : ∀ i, i < N → (its i).ok)
    (ih : ∀ (O : Option Addr) (co : Nat) (T : Option Addr) (ct : Nat) (s : List Nat) (ts : List Int) (us : List Bool) (w : World), Pre its N A B ub cu (n + 1) O co T ct s ts us w →
      Calls Try.prog 24 #[.slice A N cl, .agg G, .slice O (n + 1) co, .slice T (n + 1) ct, .slice (some ⟨ub, 0, none⟩) N cu] w (SrchP (srch g its N f s ts us) N B ub cu us w)) :
    Calls Try.prog 24 #[.slice A N cl, .agg G, .slice O n co, .slice T n ct, .slice (some ⟨ub, 0, none⟩) N cu] w (SrchP (srch g its N (f + 1) s ts us) N B ub cu us w) := by
  obtain rfl := hG.ex
  have HS := Lib.hid hG.1
  have HGG := Lib.hid hG
  have HP := Lib.hid hP
  have HIh := Lib.hid ih
  have HG := Lib.hid hg
  have HI := Lib.hid hi
  have hbU := hP.bU
  have hnO := hP.nO
  have hnT := hP.nT
  have HLs := Lib.hid hP.ls
  have HLt := Lib.hid hP.lt
  have HLu := Lib.hid hP.lu
  have hcO : (n : Int) ≤ (co : Int) := by have := hP.cO; omega
  have hcT : (n : Int) ≤ (ct : Int) := by have := hP.cT; omega
  obtain ⟨ba, oa, rfl, hba, hra⟩ := hP.hA (by omega)
  have HRa := Lib.hid hra
  have hbB := hP.bB
  have HE : Hid (srch g its N (f + 1) s ts us = srchK (fun i t => srch g its N f (s ++ [i]) (ts ++ [t]) (us.set i true)) (nxS g its s ts) its us N (N - 0)) := Lib.hid rfl
  generalize srch g its N (f + 1) s ts us = R at *
  obtain ⟨i3, J0, J1, J2, J3⟩ := info_parts (show (Try.prog.info? 3).map (fun i => (i.zero, i.size, i.bytes)) = some (some (.int .i64 0), 1, 8) by kernel_rfl)
  have hnN : ((n : Int) == (N : Int)) = false := by simp; omega
  have hn1 : (0 : Int) ≤ (n : Int) := by omega
  have hb0 : Below w.heap.size w (w.alloc (.cells (exG g) 24)) := (Below.refl _ _).alloc (Nat.le_refl _) _
  clear hP hG hg hi ih hra
  go_enter Try.func24, Try.ntmps24
  go_wp2_with fail
  go_loopw [24] (fun i wr => ∃ j : Nat, j ≤ N ∧ i = .int .i64 (j : Int) ∧ Hid (R = srchK (fun i t => srch g its N f (s ++ [i]) (ts ++ [t]) (us.set i true)) (nxS g its s ts) its us N (N - j)) ∧ Hid (w.grownBy wr (some ub)) ∧ Hid (wr.ownsRow B 4 1 (.slice (some ⟨ub, 0, none⟩) N cu) N (boolsV us)) ∧ Hid (wr.heap[w.heap.size]? = some (.cells (exG g) 24 (0, 0)))) (fun i _ => N - (intOf i).toNat)
  case atStart => exact ⟨0, by omega, rfl, HE, gb_of_below hb0, own_below HP.out.hU hb0 (Nat.le_refl _), heap_alloc_new w _⟩
  case round =>
    obtain ⟨j, hj, rfl, HK, HGw, HUr, HBx⟩ := hrel
    by_cases hlt : j < N
    · have hj0 : (0 : Int) ≤ (j : Int) := by omega
      have hjN : (j : Int) < (N : Int) := by omega
      have HKN := Lib.hid (srchK_next (f := fun i t => srch g its N f (s ++ [i]) (ts ++ [t]) (us.set i true)) (nx := nxS g its s ts) (its := its) (us := us) hlt)
      have HPr := Lib.hid (HP.out.grown HGw.out HUr.out)
      have HNx := Lib.hid (HPr.out.next (c := cl) HGG.out HG.out HI.out hN (by omega) j hlt)
      have htp := HP.out.nx_bd HG.out HI.out j hlt
      have hok := HI.out j hlt
      unfold It.ok at hok
      have hub : j < us.length := by rw [HLu.out]; exact hlt
      obtain ⟨t, ht⟩ : ∃ t, nxS g its s ts j = t := ⟨_, rfl⟩
      obtain ⟨b, hbe⟩ : ∃ b, us[j]! = b := ⟨_, rfl⟩
      have HBE := Lib.hid hbe
      rw [ht] at HNx htp
      rw [ht, hbe] at HKN
      have hzr := HPr.out.bU
      have HC := Lib.hid (show ∀ W, Below wr.heap.size wr W → W.cell? ⟨ub, j, none⟩ = some (.bool b) ∧ W.frozen? ⟨ub, j, none⟩ = false ∧ W.cell? ⟨ba, oa + j * 4 + 3, none⟩ = some (.int .i64 (its j).sl) from fun W hW => by
        have hU := own_below HUr.out hW (Nat.le_refl _)
        refine ⟨?_, hU.frozenAt j, ?_⟩
        · rw [hU.cellAt j (by omega), boolsV, List.getElem?_map, List.getElem?_eq_getElem hub, ← hbe, getElem!_pos us j hub]; rfl
        · exact ((hW.cell (p := ⟨ba, oa + j * 4 + 3, none⟩) (by show ba < _; omega)).trans (gb_cell HGw.out (p := ⟨ba, oa + j * 4 + 3, none⟩) (by show ba < _; omega) (by show ba ≠ _; omega))).trans (HRa.out j hlt 3 _ rfl))
      generalize (its j).sl = sl at *
      by_cases hskip : (b || decide (sl < t)) = true
      · have HKS := Lib.hid (show R = _ from HK.out.trans (HKN.out.trans (if_pos hskip)))
        cases b with
        | true =>
          clear hskip
          go_wp2_with (first
            | (refine wpList_load_row rfl 24 _ rfl w.heap.size rfl 24 (exG g) (0, 0) _ HBx.out Try.underlying24 rfl (by rw [HS.out]; kernel_rfl) ?_)
            | (go_at_call 23; go_loud (refine HNx.out.mono ?_; rintro e w2 ⟨rfl, hb2⟩; have HB2 := Lib.hid hb2; obtain ⟨u1, u2, u3⟩ := HC.out _ hb2; clear hb2)))
          go_roundw
          case rel => exact ⟨j + 1, by omega, by go_num, HKS, gb_below HGw.out HB2.out, own_below HUr.out HB2.out (Nat.le_refl _), (HB2.out.block _ (Array.getElem?_eq_some_iff.1 HBx.out).1).trans HBx.out⟩
          case measure => simp [intOf]; omega
        | false =>
          have hst : decide (t > sl) = true := by simpa using hskip
          have hst2 : sl < t := by simpa using hskip
          clear hskip hst
          go_wp2_with (first
            | (refine wpList_load_row rfl 24 _ rfl w.heap.size rfl 24 (exG g) (0, 0) _ HBx.out Try.underlying24 rfl (by rw [HS.out]; kernel_rfl) ?_)
            | (go_at_call 23; go_loud (refine HNx.out.mono ?_; rintro e w2 ⟨rfl, hb2⟩; have HB2 := Lib.hid hb2; obtain ⟨u1, u2, u3⟩ := HC.out _ hb2; clear hb2)))
          go_roundw
          case rel => exact ⟨j + 1, by omega, by go_num, HKS, gb_below HGw.out HB2.out, own_below HUr.out HB2.out (Nat.le_refl _), (HB2.out.block _ (Array.getElem?_eq_some_iff.1 HBx.out).1).trans HBx.out⟩
          case measure => simp [intOf]; omega
      · have hb : b = false := by cases b <;> simp_all
        subst hb
        have hst : ¬ sl < t := by simpa using hskip
        have HKM := Lib.hid (show R = _ from HK.out.trans (HKN.out.trans (if_neg hskip)))
        clear hskip hbe
        go_wp2_with (first
            | (refine wpList_load_row rfl 24 _ rfl w.heap.size rfl 24 (exG g) (0, 0) _ HBx.out Try.underlying24 rfl (by rw [HS.out]; kernel_rfl) ?_)
            | (go_at_call 23; go_loud (refine HNx.out.mono ?_; rintro e w2 ⟨rfl, hb2⟩; have HB2 := Lib.hid hb2; obtain ⟨u1, u2, u3⟩ := HC.out _ hb2; clear hb2)))
        obtain ⟨w3, hw3⟩ : ∃ w3, w2.setCell ⟨ub, j, none⟩ (.bool true) = w3 := ⟨_, rfl⟩
        have hst3 := (own_below HUr.out HB2.out (Nat.le_refl _)).stored j (.bool true)
        rw [hw3] at hst3 ⊢
        have HU3 := Lib.hid (show w3.ownsRow B 4 1 (.slice (some ⟨ub, 0, none⟩) N cu) N (boolsV (us.set j true)) by rw [← bools_set]; exact hst3.1)
        have HG3 := Lib.hid (show w.grownBy w3 (some ub) from grownBy_trans (gb_below HGw.out HB2.out) hst3.2)
        have HX3 := gb_box hst3.2 ((HB2.out.block _ (Array.getElem?_eq_some_iff.1 HBx.out).1).trans HBx.out) (show w.heap.size ≠ ub by omega)
        have HP3 := Lib.hid ((HP.out.grown HG3.out (us' := us.set j true) HU3.out))
        clear hst3 u1 u2 u3
        have hs0 : w3.grownBy w3.drew (some ub) ∧ w3.drew.heap[w.heap.size]? = some (.cells (exG g) 24 (0, 0)) := ⟨gb_of_below ((Below.refl _ _).drew), HX3⟩
        have HK1 := Lib.hid (show ((w3.alloc (.cells #[.int .i64 (j : Int)] 3)).alloc (.cells #[.int .i64 t] 3)).heap[w3.heap.size + 1]? = some (.cells #[.int .i64 t] 3 (0, 0)) by have h9 := heap_alloc_new (w3.alloc (.cells #[.int .i64 (j : Int)] 3)) (.cells #[.int .i64 t] 3); simpa using h9)
        have HK2 := Lib.hid (show w3.heap.size + 1 < ((w3.alloc (.cells #[.int .i64 (j : Int)] 3)).alloc (.cells #[.int .i64 t] 3)).heap.size by simp)
        have HK3 := Lib.hid (show ((w3.alloc (.cells #[.int .i64 t] 3)).alloc (.cells #[.int .i64 (j : Int)] 3)).heap[w3.heap.size + 1]? = some (.cells #[.int .i64 (j : Int)] 3 (0, 0)) by have h9 := heap_alloc_new (w3.alloc (.cells #[.int .i64 t] 3)) (.cells #[.int .i64 (j : Int)] 3); simpa using h9)
        have q0 := exG_cell (g := g) (N := w.heap.size) (k := 0) (by decide) HGG.out
        have q1 := exG_cell (g := g) (N := w.heap.size) (k := 1) (by decide) HGG.out
        have q2 := exG_cell (g := g) (N := w.heap.size) (k := 2) (by decide) HGG.out
        have q3 := exG_cell (g := g) (N := w.heap.size) (k := 3) (by decide) HGG.out
        have q4 := exG_cell (g := g) (N := w.heap.size) (k := 4) (by decide) HGG.out
        have q5 := exG_cell (g := g) (N := w.heap.size) (k := 5) (by decide) HGG.out
        have q6 := exG_cell (g := g) (N := w.heap.size) (k := 6) (by decide) HGG.out
        have q7 := exG_cell (g := g) (N := w.heap.size) (k := 7) (by decide) HGG.out
        have q8 := exG_cell (g := g) (N := w.heap.size) (k := 8) (by decide) HGG.out
        have q9 := exG_cell (g := g) (N := w.heap.size) (k := 9) (by decide) HGG.out
        have q10 := exG_cell (g := g) (N := w.heap.size) (k := 10) (by decide) HGG.out
        have q11 := exG_cell (g := g) (N := w.heap.size) (k := 11) (by decide) HGG.out
        have q12 := exG_cell (g := g) (N := w.heap.size) (k := 12) (by decide) HGG.out
        have q13 := exG_cell (g := g) (N := w.heap.size) (k := 13) (by decide) HGG.out
        have q14 := exG_cell (g := g) (N := w.heap.size) (k := 14) (by decide) HGG.out
        have q15 := exG_cell (g := g) (N := w.heap.size) (k := 15) (by decide) HGG.out
        have hcc := fun (O : Option Addr) (co : Nat) (T : Option Addr) (ct : Nat) (W : World) h => HIh.out O co T ct (s ++ [j]) (ts ++ [t]) (us.set j true) W h
        have hz3 := HP3.out.bU
        cases ho : srch g its N f (s ++ [j]) (ts ++ [t]) (us.set j true) with
        | none =>
          rw [ho] at HKM hcc
          have HC2 := Lib.hid (fun O co T ct W h => (hcc O co T ct W h).mono fun _ _ h => h.no)
          clear ho hcc
          go_region_held3 (fun W => w3.grownBy W (some ub) ∧ W.heap[w.heap.size]? = some (.cells (exG g) 24 (0, 0))) (first | assumption | exact sk_alloc _ (by assumption) | exact sk_below (by assumption) (by assumption) | exact sk_grown (by omega) (by assumption) (by assumption)) (first
            | (refine step_append_grows rfl (.tmp 54) (.tmp 56) 25 rfl 3 i3 (.int .i64 0) 1 8 Try.underlying25 J0 J1 J2 J3 rfl (by decide) O n n (rowsV natV s) rfl (fun h => ⟨(hnO h).1, (hnO h).1⟩) (by rw [rowsV_len (k := 1) (fun _ => rfl), HLs.out]) (sk_row (enc := natV) (fun _ => rfl) HP.out.hO HLs.out HP.out.oO HG3.out (by assumption)) _ 1 1 [.int .i64 (j : Int)] rfl rfl (sk_new (cs := #[.int .i64 (j : Int)]) (e := 3) (by first | exact heap_alloc_new _ _ | exact (Below.heap_alloc _ _ _ (by simp)).trans (heap_alloc_new _ _) | exact HK3.out)) (by simp [Value.oneCell']) (by omega) (by unfold maxLen; omega) (by omega) ?_; intro v7 w7 hown7 hgr7; have B7 := below_grow hgr7; obtain ⟨g7, cap7, rfl, hbg7, hlt7⟩ := hown7.form (by omega); have O7 := Lib.hid hown7; clear hown7 hgr7)
            | (refine step_append_grows rfl (.tmp 61) (.tmp 63) 25 rfl 3 i3 (.int .i64 0) 1 8 Try.underlying25 J0 J1 J2 J3 rfl (by decide) T n n (rowsV intV1 ts) rfl (fun h => ⟨(hnT h).1, (hnT h).1⟩) (by rw [rowsV_len (k := 1) (fun _ => rfl), HLt.out]) (sk_row (enc := intV1) (fun _ => rfl) HP.out.hT HLt.out HP.out.oT HG3.out (by assumption)) _ 1 1 [.int .i64 t] rfl rfl (sk_new (cs := #[.int .i64 t]) (e := 3) (by first | exact heap_alloc_new _ _ | exact (B7.block _ (by simp <;> omega)).trans ((Below.heap_alloc _ _ _ (by simp)).trans (heap_alloc_new _ _)) | exact (B7.block _ HK2.out).trans HK1.out)) (by simp [Value.oneCell']) (by omega) (by unfold maxLen; omega) (by omega) ?_; intro v14 w14 hown14 hgr14; have B14 := below_grow hgr14; obtain ⟨g14, cap14, rfl, hbg14, hlt14⟩ := hown14.form (by omega); have O14 := Lib.hid hown14; clear hown14 hgr14)
            | (go_at_call 24; go_loud (have BA : Below w3.heap.size w3 w7 := (by first | exact up1 B7 | exact up2 B7); have BB : Below w7.heap.size w7 w14 := (by first | exact B14 | exact up1n B14); refine (HC2.out _ _ _ _ w14 (HP3.out.snoc hlt ⟨htp, by omega⟩ (gb_of_below (BA.trans (BB.mono BA.size))) (own_below HU3.out (BA.trans (BB.mono BA.size)) (Nat.le_refl _)) (own_mono (own_below (show w7.ownsRow _ _ _ _ _ (rowsV natV (s ++ [j])) by rw [rowsV_append]; exact O7.out) BB (Nat.le_refl _)) (by first | exact sz1 _ _ | exact sz2 _ _ _ | exact Nat.le_trans (sz1 _ _) hbg7 | exact Nat.le_trans (sz2 _ _ _) hbg7)) (own_mono (show w14.ownsRow _ _ _ _ _ (rowsV intV1 (ts ++ [t])) by rw [rowsV_append]; exact O14.out) (by first | exact BA.size | exact Nat.le_trans BA.size (sz1n _ _))) (by first | exact sz1 _ _ | exact sz2 _ _ _ | exact Nat.le_trans (sz1 _ _) hbg7 | exact Nat.le_trans (sz2 _ _ _) hbg7) (by first | exact Nat.le_trans BA.size hbg14 | exact Nat.le_trans BA.size (Nat.le_trans (sz1n _ _) hbg14)))).mono ?_; rintro e w15 ⟨rfl, hb15, hu15⟩; have U15 := And.intro trivial hu15; clear hu15; clear BA BB)))
          all_goals
            have GG := And.intro trivial (show w.grownBy w15 (some ub) by exact grownBy_trans HG3.out (And.left (by assumption)))
            have XX := Lib.hid (show w15.heap[w.heap.size]? = some (.cells (exG g) 24 (0, 0)) from And.right (by assumption))
            have v1 : w15.cell? ⟨ub, j, none⟩ = some (.bool true) := U15.2.cellAt j (by omega) |>.trans (by rw [← bools_set, List.getElem?_set_self (by rw [boolsV, List.length_map, HLu.out]; exact hlt)])
            have v2 : w15.frozen? ⟨ub, j, none⟩ = false := U15.2.frozenAt j
            go_wp2_with fail
            have st4 := U15.2.stored j (.bool false)
            rw [bools_set, bools_back HBE.out (by rw [HLu.out]; exact hlt)] at st4
            go_roundw
            case rel => exact ⟨j + 1, by omega, by go_num, HKM, grownBy_trans GG.2 st4.2, st4.1, gb_box st4.2 XX.out (by omega)⟩
            case measure => simp [intOf]; omega
        | some out =>
          rw [ho] at HKM hcc
          have HC2 := Lib.hid (fun O co T ct W h => (hcc O co T ct W h).mono fun _ _ h => h.yes)
          clear ho hcc
          go_region_held3 (fun W => w3.grownBy W (some ub) ∧ W.heap[w.heap.size]? = some (.cells (exG g) 24 (0, 0))) (first | assumption | exact sk_alloc _ (by assumption) | exact sk_below (by assumption) (by assumption) | exact sk_grown (by omega) (by assumption) (by assumption)) (first
            | (refine step_append_grows rfl (.tmp 54) (.tmp 56) 25 rfl 3 i3 (.int .i64 0) 1 8 Try.underlying25 J0 J1 J2 J3 rfl (by decide) O n n (rowsV natV s) rfl (fun h => ⟨(hnO h).1, (hnO h).1⟩) (by rw [rowsV_len (k := 1) (fun _ => rfl), HLs.out]) (sk_row (enc := natV) (fun _ => rfl) HP.out.hO HLs.out HP.out.oO HG3.out (by assumption)) _ 1 1 [.int .i64 (j : Int)] rfl rfl (sk_new (cs := #[.int .i64 (j : Int)]) (e := 3) (by first | exact heap_alloc_new _ _ | exact (Below.heap_alloc _ _ _ (by simp)).trans (heap_alloc_new _ _) | exact HK3.out)) (by simp [Value.oneCell']) (by omega) (by unfold maxLen; omega) (by omega) ?_; intro v7 w7 hown7 hgr7; have B7 := below_grow hgr7; obtain ⟨g7, cap7, rfl, hbg7, hlt7⟩ := hown7.form (by omega); have O7 := Lib.hid hown7; clear hown7 hgr7)
            | (refine step_append_grows rfl (.tmp 61) (.tmp 63) 25 rfl 3 i3 (.int .i64 0) 1 8 Try.underlying25 J0 J1 J2 J3 rfl (by decide) T n n (rowsV intV1 ts) rfl (fun h => ⟨(hnT h).1, (hnT h).1⟩) (by rw [rowsV_len (k := 1) (fun _ => rfl), HLt.out]) (sk_row (enc := intV1) (fun _ => rfl) HP.out.hT HLt.out HP.out.oT HG3.out (by assumption)) _ 1 1 [.int .i64 t] rfl rfl (sk_new (cs := #[.int .i64 t]) (e := 3) (by first | exact heap_alloc_new _ _ | exact (B7.block _ (by simp <;> omega)).trans ((Below.heap_alloc _ _ _ (by simp)).trans (heap_alloc_new _ _)) | exact (B7.block _ HK2.out).trans HK1.out)) (by simp [Value.oneCell']) (by omega) (by unfold maxLen; omega) (by omega) ?_; intro v14 w14 hown14 hgr14; have B14 := below_grow hgr14; obtain ⟨g14, cap14, rfl, hbg14, hlt14⟩ := hown14.form (by omega); have O14 := Lib.hid hown14; clear hown14 hgr14)
            | (go_at_call 24; go_loud (have BA : Below w3.heap.size w3 w7 := (by first | exact up1 B7 | exact up2 B7); have BB : Below w7.heap.size w7 w14 := (by first | exact B14 | exact up1n B14); refine (HC2.out _ _ _ _ w14 (HP3.out.snoc hlt ⟨htp, by omega⟩ (gb_of_below (BA.trans (BB.mono BA.size))) (own_below HU3.out (BA.trans (BB.mono BA.size)) (Nat.le_refl _)) (own_mono (own_below (show w7.ownsRow _ _ _ _ _ (rowsV natV (s ++ [j])) by rw [rowsV_append]; exact O7.out) BB (Nat.le_refl _)) (by first | exact sz1 _ _ | exact sz2 _ _ _ | exact Nat.le_trans (sz1 _ _) hbg7 | exact Nat.le_trans (sz2 _ _ _) hbg7)) (own_mono (show w14.ownsRow _ _ _ _ _ (rowsV intV1 (ts ++ [t])) by rw [rowsV_append]; exact O14.out) (by first | exact BA.size | exact Nat.le_trans BA.size (sz1n _ _))) (by first | exact sz1 _ _ | exact sz2 _ _ _ | exact Nat.le_trans (sz1 _ _) hbg7 | exact Nat.le_trans (sz2 _ _ _) hbg7) (by first | exact Nat.le_trans BA.size hbg14 | exact Nat.le_trans BA.size (Nat.le_trans (sz1n _ _) hbg14)))).mono ?_; rintro e w15 ⟨A15, c15, rfl, hs15, hb15⟩; have S15 := And.intro trivial hs15; clear hs15; clear BA BB)))
          all_goals
            have GG := And.intro trivial (show w.grownBy w15 (some ub) by exact grownBy_trans HG3.out (And.left (by assumption)))
            go_wp2_with fail
            go_ret
            have hR : R = some out := HKM.out
            subst hR
            exact ⟨some A15, c15, rfl, (fun h => by cases h), (fun _ h => by cases h), S15.2, GG.2, (fun h => by cases h)⟩
    · obtain rfl : j = N := by omega
      have hR : R = none := HK.out.trans (by rw [Nat.sub_self]; rfl)
      subst hR
      go_wp2_with fail
      go_ret
      exact ⟨none, 0, rfl, fun _ => ⟨rfl, rfl⟩, (fun h => by cases h), Sl.none_, HGw.out, fun _ => HUr.out⟩
end Go.Proofs.Ytmdfdjgeaemicaa
