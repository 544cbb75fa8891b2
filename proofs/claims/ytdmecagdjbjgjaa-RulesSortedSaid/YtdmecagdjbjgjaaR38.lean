/- The walk of RulesOurs. -/
import Derived.Test.YtdmecagdjbjgjaaR37
import Derived.Test.YtdmecagdjbjgjaaR33
import Derived.Test.YtdmecagdjbjgjaaR24
namespace Go.Proofs.Ytdmecagdjbjgjaa
open Go.RowKit

def oddV : Value := .iface 61 (.agg #[])
theorem All_ours (A : Option Addr) (m c : Nat) (Rl : List Value) (v : Value) (s : Sc) (w : World) (hS : ∀ W, Below w.heap.size w W → s.at_ W W.heap.size) (hA : Sl w w.heap.size 1 A (m + 1) (fun i => [(Rl ++ [oddV])[i]!])) (hl : Rl.length = m) (hm : m ≤ 6)
    (hr : ∀ r ∈ Rl, RuM w v r) (hc : checkE s = 0) :
    Calls Try.prog 16 #[.slice A (m + 1) c, s.val] w fun E w' => (∃ (V : Option Addr) (cv q : Nat) (R : List Al), E = .returned (.tuple #[.slice V q cv, .int .i64 0]) ∧ R.length = q ∧ (q ≤ 100000) ∧ (∀ x ∈ oddL (s.n / 2), x ∈ R) ∧ w'.ownsRow w.heap.size 51 4 (.slice V q cv) q (rowsV alL R)) ∧ Below w.heap.size w w' := by
  obtain ⟨AF, nm, hR⟩ := rules_fn hr
  have hn := (checkE_zero hc).1
  have g1 : ∀ i, i < m → (Rl ++ [oddV])[i]! = Rl[i]! := fun i hi => by
    rw [getElem!_pos (Rl ++ [oddV]) i (by rw [List.length_append]; omega), getElem!_pos Rl i (by omega), List.getElem_append_left]
  have g2 : (Rl ++ [oddV])[m]! = oddV := by
    rw [getElem!_pos (Rl ++ [oddV]) m (by rw [List.length_append, List.length_singleton]; omega), List.getElem_append_right (by omega)]
    simp [hl]
  refine (All_any A (m + 1) c (fun i => (Rl ++ [oddV])[i]!) (fun i => if i < m then AF i s else oddL (s.n / 2)) s w (hS w (Below.refl _ _)) hA (by omega) (fun _ i hi => .inr ?_) (fun _ i hi => ?_)).mono ?_
  · by_cases h : i < m
    · show RuOk s w ((Rl ++ [oddV])[i]!) (if i < m then AF i s else oddL (s.n / 2))
      rw [if_pos h, g1 i h]
      exact (hR i (by omega)).1.ok s hS
    · obtain rfl : i = m := by omega
      show RuOk s w ((Rl ++ [oddV])[i]!) (if i < i then AF i s else oddL (s.n / 2))
      rw [if_neg h, g2]
      exact .inr (.inr ⟨_, rfl, fun W _ => Odd_any s W hn⟩)
  · show (if i < m then AF i s else oddL (s.n / 2)).length ≤ 1024
    split
    · exact (hR i (by omega)).2.len s
    · rw [oddL_len]; omega
  · rintro E w' ⟨h, hb⟩
    refine ⟨?_, hb⟩
    rcases h with ⟨h, _⟩ | ⟨_, ⟨i, hi, h⟩, _⟩ | ⟨_, _, V, cv, R, he, hL, ho⟩
    · exact absurd hc h
    · have h : (Rl ++ [oddV])[i]! = .nilIface := h
      by_cases hlt : i < m
      · rw [g1 i hlt] at h
        rcases (hR i (by omega)).1 with ⟨_, _, _, e, _⟩ | ⟨_, _, _, e, _⟩ <;> (rw [e] at h; cases h)
      · obtain rfl : i = m := by omega
        rw [g2] at h; cases h
    · refine ⟨V, cv, R.length, R, he, rfl, ?_, fun x hx => (AllL_mem hL x).2 ((flA_mem (m + 1)).2 ⟨m, by omega, by rw [if_neg (by omega)]; exact hx⟩), ho⟩
      obtain ⟨S, hp, _, rfl⟩ := hL
      have h1 := ddN_len (fun i => S[i]!) S.length
      have h2 := hp.length_eq
      have h3 := flA_len (LL := fun i => if i < m then AF i s else oddL (s.n / 2)) (B := 1024) (m + 1) (fun i hi => by
        show (if i < m then AF i s else oddL (s.n / 2)).length ≤ 1024
        split
        · exact (hR i (by omega)).2.len s
        · rw [oddL_len]; omega)
      omega

theorem cells_one {w : World} {base : Nat} {A : Option Addr} {n c : Nat} {Rl : List Value} (h : w.ownsRow base 30 1 (.slice A n c) n Rl) : Sl w w.heap.size 1 A n (fun i => [Rl[i]!]) := fun h0 => by
  obtain ⟨g, cap, hv, _, hlt⟩ := h.form h0
  obtain rfl : A = some ⟨g, 0, none⟩ := by injection hv
  refine ⟨g, 0, rfl, hlt, fun i hi j u hj => ?_⟩
  have hl : Rl.length = n := by have := h.1; omega
  have : j = 0 := by
    have := (List.getElem?_eq_some_iff.1 hj).1
    simpa using this
  subst this
  have h2 := h.cells rfl i Rl[i]! (by rw [List.getElem?_eq_getElem (by omega), getElem!_pos Rl i (by omega)])
  rw [Addr.add_mid, Nat.zero_add] at h2
  rw [Nat.zero_add, Nat.mul_one, Nat.add_zero, h2]
  exact hj

/-- Another block than the one that an append may write, where the append lays no block first. -/
theorem bk_app2 {w5 w6 : World} {p g6 cap m cv : Nat} {V : Option Addr} {ob : Obj} {k : Nat} (hy : w5.heap[p]? = some ob) (hv : (Value.slice V m cv).ownBlock ≠ some p)
    (hg : w5.grownBy w6 (Value.slice V m cv).ownBlock) (hat : (Value.slice V m cv).ownBlock = some g6 ∨ g6 = w5.heap.size) :
    w6.heap[p]? = some ob ∧ (Value.slice (some ⟨g6, 0, none⟩) k cap).ownBlock ≠ some p := by
  have hp : p < w5.heap.size := (Array.getElem?_eq_some_iff.1 hy).1
  refine ⟨(hg.block p hp (fun e => hv e.symm)).trans hy, fun e => ?_⟩
  have e : g6 = p := by simpa [Value.ownBlock] using e
  rcases hat with h | h
  · exact hv (by rw [h, e])
  · omega
theorem nil_row {w : World} {b : Nat} (h : w.heap[b]? = some (.cells #[.nilIface] 30 (0, 0))) : Sl w w.heap.size 1 (some ⟨b, 0, none⟩) 1 (fun _ => [.nilIface]) := fun _ => by
  refine ⟨b, 0, rfl, (Array.getElem?_eq_some_iff.1 h).1, fun i hi j v hj => ?_⟩
  have : j = 0 := by
    have := (List.getElem?_eq_some_iff.1 hj).1
    simpa using this
  subst this
  obtain rfl : i = 0 := by omega
  rw [cell_of_row w b _ _ 30 (0, 0) h]
  exact hj

set_option maxRecDepth 100000 in
set_option maxHeartbeats 16000000 in
theorem Ours_walk (A : Option Addr) (n c : Nat) (f : Nat → Int) (s : Sc) (w : World) (hA : Sl w w.heap.size 1 A n (fun i => [.int .i64 (f i)])) (hnc : n ≤ c) (hcm : c ≤ maxLen) (hS : s.at_ w w.heap.size) :
    Calls Try.prog 5 #[.slice A n c, s.val] w fun E w' => E = .returned (.bool true) ∧ Below w.heap.size w w' := by
  obtain ⟨w1, hw1⟩ : ∃ W, w.alloc (.cells #[.int .i64 s.tm, .slice s.A s.n s.c, .slice s.B s.m s.d] 25) = W := ⟨_, rfl⟩
  have hb1 : Below w.heap.size w w1 := by rw [← hw1]; exact (Below.refl _ _).alloc (Nat.le_refl _) _
  have hyg : w1.heap[w.heap.size]? = some (.cells #[.int .i64 s.tm, .slice s.A s.n s.c, .slice s.B s.m s.d] 25 (0, 0)) := by rw [← hw1]; exact heap_alloc_new _ _
  have hl0 : w.heap.size < w1.heap.size := by rw [← hw1]; simp
  have HST := Lib.hid (fun W (h : Below w1.heap.size w1 W) => hS.step (hb1.trans (h.mono hb1.size)))
  have HCH := Lib.hid (fun W (h : Below w1.heap.size w1 W) => Check_any s W (hS.step (hb1.trans (h.mono hb1.size))))
  have HFA := Lib.hid fact_any
  have HSV := Lib.hid (fun W (h : Below w1.heap.size w1 W) => several_any A n c f W ((hA.below (hb1.trans (h.mono hb1.size))).more (hb1.trans (h.mono hb1.size)).size) hnc hcm)
  have HVV : Hid (s.val = .agg #[.int .i64 s.tm, .slice s.A s.n s.c, .slice s.B s.m s.d]) := Lib.hid rfl
  unfold SevP at HSV
  rw [HVV.out] at HCH ⊢
  clear hA hS
  obtain ⟨i30, E0, E1, E2, E3⟩ := info_parts rule_info
  obtain ⟨g, hg⟩ : ∃ g, w.heap.size = g := ⟨_, rfl⟩
  have HG := Lib.hid hg
  rw [hg] at hyg hl0
  have HB1 := Lib.hid hb1
  have HY := Lib.hid hyg
  have a0 : w1.cell? ⟨g, 0, none⟩ = some (.int .i64 s.tm) := cell_of_row w1 _ 0 _ 25 (0, 0) hyg
  have a1 : w1.cell? ⟨g, 1, none⟩ = some (.slice s.A s.n s.c) := cell_of_row w1 _ 1 _ 25 (0, 0) hyg
  have a2 : w1.cell? ⟨g, 2, none⟩ = some (.slice s.B s.m s.d) := cell_of_row w1 _ 2 _ 25 (0, 0) hyg
  have HSK := Lib.hid (fun W (h : Below w1.heap.size w1 W) => show Below w1.heap.size w1 W ∧ W.cell? ⟨g, 0, none⟩ = some (.int .i64 s.tm) ∧ W.cell? ⟨g, 1, none⟩ = some (.slice s.A s.n s.c) ∧ W.cell? ⟨g, 2, none⟩ = some (.slice s.B s.m s.d) from ⟨h, (h.cell (p := ⟨g, 0, none⟩) hl0).trans a0, (h.cell (p := ⟨g, 1, none⟩) hl0).trans a1, (h.cell (p := ⟨g, 2, none⟩) hl0).trans a2⟩)
  have hs0 := HSK.out _ (Below.refl w1.heap.size w1).drew
  clear hb1 hyg a0 a1 a2
  by_cases hce : checkE s = 0
  · have hn32 := (checkE_zero hce).1
    rw [hce] at HCH
    have HCE := Lib.hid hce
    have HOD := Lib.hid (fun W => Odd_any s W hn32)
    rw [HVV.out] at HOD
    unfold AlsP at HOD
    have HAO := Lib.hid (fun A m c Rl v w h1 h2 h3 h4 h5 => All_ours A m c Rl v s w h1 h2 h3 h4 h5 hce)
    have HAN := Lib.hid (fun A c w h1 h2 => All_nil A c s w h1 h2 hce)
    rw [HVV.out] at HAO HAN
    clear hce
    go_enter Try.func5, Try.ntmps5
    go_wp2
    refine wp_region_held_drew (S := (fun W => Below w1.heap.size w1 W ∧ W.cell? ⟨g, 0, none⟩ = some (.int .i64 s.tm) ∧ W.cell? ⟨g, 1, none⟩ = some (.slice s.A s.n s.c) ∧ W.cell? ⟨g, 2, none⟩ = some (.slice s.B s.m s.d))) (by kernel_rfl) hs0 (fun hHeld => ?_)
    refine wpAnyH_take (i := 0) (oi := ⟨some 13, _, _, _, _, _⟩) (v := ?v1) rfl (by kernel_rfl) (by kernel_rfl) (by kernel_rfl) (fun _ _ _ h => h) (Or.inl ⟨by rfl, ?y1⟩) hHeld ?r1
    case y1 => (intro W hSw; (try dsimp only at hSw); go_simp; try with_reducible rfl)
    try simp only [Act.put, List.setIfInBounds_toArray, List.set_cons_zero, List.set_cons_succ]
    refine wpAnyH_take (i := 2) (oi := ⟨some 15, _, _, _, _, _⟩) (v := ?v2) rfl (by kernel_rfl) (by kernel_rfl) (by kernel_rfl) (fun _ _ _ h => h) (Or.inl ⟨by rfl, ?y2⟩) hHeld ?r2
    case y2 => (intro W hSw; (try dsimp only at hSw); go_simp; try with_reducible rfl)
    try simp only [Act.put, List.setIfInBounds_toArray, List.set_cons_zero, List.set_cons_succ]
    refine wpAnyH_take (i := 3) (oi := ⟨some 16, _, _, _, _, _⟩) (v := ?v3) rfl (by kernel_rfl) (by kernel_rfl) (by kernel_rfl) (fun _ _ _ h => h) (Or.inl ⟨by rfl, ?y3⟩) hHeld ?r3
    case y3 => (intro W hSw; (try dsimp only at hSw); go_simp; try with_reducible rfl)
    try simp only [Act.put, List.setIfInBounds_toArray, List.set_cons_zero, List.set_cons_succ]
    refine wpAnyH_take (i := 6) (oi := ⟨some 19, _, _, _, _, _⟩) (v := ?v4) rfl (by kernel_rfl) (by kernel_rfl) (by kernel_rfl) (fun _ _ _ h => h) (Or.inl ⟨by rfl, ?y4⟩) hHeld ?r4
    case y4 => (intro W hSw; (try dsimp only at hSw); go_simp; try with_reducible rfl)
    try simp only [Act.put, List.setIfInBounds_toArray, List.set_cons_zero, List.set_cons_succ]
    obtain ⟨V0, hV0⟩ : ∃ V, w1.drew = V := ⟨_, rfl⟩
    rw [hV0]
    have HV0 := Lib.hid (show Below w1.heap.size w1 V0 by rw [← hV0]; exact (Below.refl _ _).drew)
    clear hV0 hHeld hs0
    have hzV0 := HV0.out.size
    refine wpAnyH_ready (rs := [1, 4]) (by kernel_rfl) (by simp) ?_
    refine AllReadyH.cons (o := ⟨some 14, _, _, _, _, _⟩) rfl (fun K hK => ?_) (AllReadyH.cons (o := ⟨some 17, _, _, _, _, _⟩) rfl (fun K hK => ?_) AllReadyH.nil)
    · go_simp
      go_at_call 14
      refine (HSV.out V0 HV0.out).mono ?_
      rintro E X1 ⟨V, m, cv, Rl, rfl, hm, hl, ho, hr, hb⟩
      have hzX1 := hb.size
      have HX1 := Lib.hid (HV0.out.trans (hb.mono HV0.out.size))
      refine hK.out _ _ (HSK.out _ HX1.out) (fun hHeld => ?_)
      clear hK K hHeld
      try simp only [Act.put, List.setIfInBounds_toArray, List.set_cons_zero, List.set_cons_succ]
      refine wpAnyH_ready (rs := [4]) (by kernel_rfl) (by simp) ?_
      refine AllReadyH.cons (o := ⟨some 17, _, _, _, _, _⟩) rfl (fun K hK => ?_) AllReadyH.nil
      go_simp
      obtain ⟨X2, hX2⟩ : ∃ V, X1.alloc (.cells #[.iface 61 (.agg #[])] 30) = V := ⟨_, rfl⟩
      rw [hX2]
      have HX2 := Lib.hid (show Below w1.heap.size w1 X2 by rw [← hX2]; exact HX1.out.alloc HX1.out.size _)
      have hb2 : Below X1.heap.size X1 X2 := by rw [← hX2]; exact (Below.refl _ _).alloc (Nat.le_refl _) _
      have HN := Lib.hid (show X2.heap[X1.heap.size]? = some (.cells #[.iface 61 (.agg #[])] 30 (0, 0)) by rw [← hX2]; exact heap_alloc_new _ _)
      have HO := Lib.hid (own_below ho hb2 (Nat.le_refl _))
      have HR := Lib.hid (fun r h => (hr r h).below hb2)
      have HLn := Lib.hid hl
      have hbase : V0.heap.size ≤ X2.heap.size := Nat.le_trans hzX1 hb2.size
      refine hK.out _ _ (HSK.out _ HX2.out) (fun hHeld => ?_)
      clear hK K hX2 ho hr hl hb hb2
      try simp only [Act.put, List.setIfInBounds_toArray, List.set_cons_zero, List.set_cons_succ]
      refine wpAnyH_ready (rs := [5]) (by kernel_rfl) (by simp) ?_
      refine AllReadyH.cons (o := ⟨some 18, _, _, _, _, _⟩) rfl (fun K hK => ?_) AllReadyH.nil
      go_loud (refine step_append_lies X2 rfl (.tmp 14) (.tmp 17) 54 rfl (V0.heap.size) 30 i30 .nilIface 1 16 Try.underlying54 E0 E1 E2 E3 rfl (by decide) (.slice V m cv) m Rl rfl HO.out ⟨X1.heap.size, 0, none⟩ 1 1 [.iface 61 (.agg #[])] rfl rfl (World.news_of_block HN.out) (by simp [Value.oneCell']) (by omega) (by simp only [maxLen]; omega) (by omega) hbase X2.heap.size rfl ?_)
      intro g6 cap6 X6 hv6 hg6 hat6 hlt6
      have HX6 := Lib.hid (show Below w1.heap.size w1 X6 from HX2.out.grown hg6 HX2.out.size (fun k' hk' => by have := (HO.out.lt k' hk').1; omega))
      have HO6 := Lib.hid hv6
      have HR6 := Lib.hid (show ∀ r ∈ Rl, RuM X6 (.slice (some ⟨g6, 0, none⟩) (m + 1) cap6) r from fun r h => (HR.out r h).move (fun p o hp hn => bk_app2 hp hn hg6 hat6))
      refine hK.out _ _ (HSK.out _ HX6.out) (fun hHeld => ?_)
      clear hK K hv6 hg6 hat6 hlt6
      try simp only [Act.put, List.setIfInBounds_toArray, List.set_cons_zero, List.set_cons_succ]
      refine wpAnyH_ready (rs := [7]) (by kernel_rfl) (by simp) ?_
      refine AllReadyH.cons (o := ⟨some 20, _, _, _, _, _⟩) rfl (fun K hK => ?_) AllReadyH.nil
      go_simp
      go_at_call 16
      refine (HAO.out (some ⟨g6, 0, none⟩) m cap6 Rl (.slice (some ⟨g6, 0, none⟩) (m + 1) cap6) X6 (fun W h => HST.out W (HX6.out.trans (h.mono HX6.out.size))) (cells_one HO6.out) HLn.out hm HR6.out).mono ?_
      rintro E X7 ⟨⟨V7, cv7, q7, R7, rfl, hl7, hq7, hmem7, ho7⟩, hb7⟩
      have HX7 := Lib.hid (HX6.out.trans (hb7.mono HX6.out.size))
      have HS7 := Lib.hid (Sl_rows alL_len ho7 hl7 (by decide))
      have HL7 := Lib.hid hl7
      have HM7 := Lib.hid hmem7
      clear hb7 ho7 hl7 hmem7
      refine hK.out _ _ (HSK.out _ HX7.out) (fun hHeld => ?_)
      clear hK K
      try simp only [Act.put, List.setIfInBounds_toArray, List.set_cons_zero, List.set_cons_succ]
      refine wpAnyH_take (i := 8) (oi := ⟨some 12, _, _, _, _, _⟩) (v := ?v5) rfl (by kernel_rfl) (by kernel_rfl) (by kernel_rfl) (fun _ _ _ h => h) (Or.inl ⟨by rfl, ?y5⟩) hHeld ?r5
      case y5 => (intro W hSw; (try dsimp only at hSw); go_simp; try with_reducible rfl)
      try simp only [Act.put, List.setIfInBounds_toArray, List.set_cons_zero, List.set_cons_succ]
      refine wpAnyH_take (i := 9) (oi := ⟨some 21, _, _, _, _, _⟩) (v := ?v6) rfl (by kernel_rfl) (by kernel_rfl) (by kernel_rfl) (fun _ _ _ h => h) (Or.inl ⟨by rfl, ?y6⟩) hHeld ?r6
      case y6 => (intro W hSw; (try dsimp only at hSw); go_simp; try with_reducible rfl)
      try simp only [Act.put, List.setIfInBounds_toArray, List.set_cons_zero, List.set_cons_succ]
      refine wpAnyH_take (i := 10) (oi := ⟨some 22, _, _, _, _, _⟩) (v := ?v7) rfl (by kernel_rfl) (by kernel_rfl) (by kernel_rfl) (fun _ _ _ h => h) (Or.inl ⟨by rfl, ?y7⟩) hHeld ?r7
      case y7 => (intro W hSw; (try dsimp only at hSw); go_simp; try with_reducible rfl)
      try simp only [Act.put, List.setIfInBounds_toArray, List.set_cons_zero, List.set_cons_succ]
      refine wpAnyH_take (i := 11) (oi := ⟨some 5, _, _, _, _, _⟩) (v := ?v8) rfl (by kernel_rfl) (by kernel_rfl) (by kernel_rfl) (fun _ _ _ h => h) (Or.inl ⟨by rfl, ?y8⟩) hHeld ?r8
      case y8 => (intro W hSw; (try dsimp only at hSw); go_simp; try with_reducible rfl)
      try simp only [Act.put, List.setIfInBounds_toArray, List.set_cons_zero, List.set_cons_succ]
      refine wpAnyH_take (i := 12) (oi := ⟨some 6, _, _, _, _, _⟩) (v := ?v9) rfl (by kernel_rfl) (by kernel_rfl) (by kernel_rfl) (fun _ _ _ h => h) (Or.inl ⟨by rfl, ?y9⟩) hHeld ?r9
      case y9 => (intro W hSw; (try dsimp only at hSw); go_simp; try with_reducible rfl)
      try simp only [Act.put, List.setIfInBounds_toArray, List.set_cons_zero, List.set_cons_succ]
      refine wpAnyH_done (by kernel_rfl) ?_ _
      clear hHeld
      have cy := (HX7.out.block g hl0).trans HY.out; have c0 := cell_of_row X7 _ 0 _ 25 (0, 0) cy; have c1 := cell_of_row X7 _ 1 _ 25 (0, 0) cy; have c2 := cell_of_row X7 _ 2 _ 25 (0, 0) cy; simp only [List.getElem?_toArray, List.getElem?_cons_zero, List.getElem?_cons_succ] at c0 c1 c2; clear cy
      obtain ⟨X8, hX8⟩ : ∃ V, X7.alloc (.cells #[.nilIface] 30) = V := ⟨_, rfl⟩
      have hb8 : Below X7.heap.size X7 X8 := by rw [← hX8]; exact (Below.refl _ _).alloc (Nat.le_refl _) _
      have HX8 := Lib.hid (HX7.out.trans (hb8.mono HX7.out.size))
      have hN8 : X8.heap[X7.heap.size]? = some (.cells #[.nilIface] 30 (0, 0)) := by rw [← hX8]; exact heap_alloc_new _ _
      have hl8 : X7.heap.size < X8.heap.size := (Array.getElem?_eq_some_iff.1 hN8).1
      have HA8 := Lib.hid (nil_row hN8)
      have HS8 := Lib.hid ((HS7.out.below hb8).more hb8.size)
      have dy := (HX8.out.block g hl0).trans HY.out; have d0 := cell_of_row X8 _ 0 _ 25 (0, 0) dy; have d1 := cell_of_row X8 _ 1 _ 25 (0, 0) dy; have d2 := cell_of_row X8 _ 2 _ 25 (0, 0) dy; simp only [List.getElem?_toArray, List.getElem?_cons_zero, List.getElem?_cons_succ] at d0 d1 d2; clear dy
      clear hb8
      go_wp2_with (first
        | (go_at_call 16; go_loud (refine (HAN.out (some ⟨X7.heap.size, 0, none⟩) 1 X8 (HST.out X8 HX8.out) HA8.out).mono ?_; rintro E X9 ⟨rfl, hb9⟩; have HX9 := Lib.hid (HX8.out.trans (hb9.mono HX8.out.size)); have HS9 := Lib.hid ((HS8.out.below hb9).more hb9.size); have ey := (HX9.out.block g hl0).trans HY.out; have e0 := cell_of_row X9 _ 0 _ 25 (0, 0) ey; have e1 := cell_of_row X9 _ 1 _ 25 (0, 0) ey; have e2 := cell_of_row X9 _ 2 _ 25 (0, 0) ey; simp only [List.getElem?_toArray, List.getElem?_cons_zero, List.getElem?_cons_succ] at e0 e1 e2; clear ey; clear hb9))
        | (go_at_call 10; go_loud (refine (HCH.out X9 HX9.out).mono ?_; rintro E X10 ⟨rfl, hb10⟩; have HX10 := Lib.hid (HX9.out.trans (hb10.mono HX9.out.size)); have HS10 := Lib.hid ((HS9.out.below hb10).more hb10.size); have ky := (HX10.out.block g hl0).trans HY.out; have k0 := cell_of_row X10 _ 0 _ 25 (0, 0) ky; have k1 := cell_of_row X10 _ 1 _ 25 (0, 0) ky; have k2 := cell_of_row X10 _ 2 _ 25 (0, 0) ky; simp only [List.getElem?_toArray, List.getElem?_cons_zero, List.getElem?_cons_succ] at k0 k1 k2; clear ky; clear hb10))
        | (go_at_call 17; go_loud (refine (HOD.out X10).mono ?_; rintro E X11 ⟨⟨V11, cv11, rfl, ho11⟩, hb11⟩; have HX11 := Lib.hid (HX10.out.trans (hb11.mono HX10.out.size)); have HS11 := Lib.hid ((HS10.out.below hb11).more hb11.size); have HO11 := Lib.hid (Sl_rows alL_len ho11 rfl (by decide)); clear hb11 ho11)))
      obtain ⟨wb, rfl⟩ : ∃ wb, wb = X11 := ⟨_, rfl⟩
      have hK : (oddL (s.n / 2)).length = s.n / 2 := oddL_len _
      have HKK := Lib.hid hK
      obtain ⟨J, hJ⟩ : ∃ J, (oddL (s.n / 2)).length = J := ⟨_, rfl⟩
      rw [hJ] at HO11 ⊢
      have hJ32 : J ≤ 32 := by omega
      have HJ := Lib.hid hJ
      have hJ0 : (0 : Int) ≤ (J : Int) := by omega
      clear hK hJ
      go_loopw [48] (fun x wr => ∃ j : Nat, j ≤ J ∧ x = .int .i64 (j : Int) ∧ Hid (Below wb.heap.size wb wr)) (fun x _ => J - (intOf x).toNat)
      case atStart => exact ⟨0, by omega, rfl, Lib.hid (Below.refl _ _)⟩
      case round =>
        obtain ⟨j, hj, rfl, HB⟩ := hrel
        have hzr := HB.out.size
        by_cases hlt : j < J
        · obtain ⟨bb, off, rfl, hbb, hr⟩ := HO11.out (by omega)
          have hcs : ∀ t v, (alL (oddL (s.n / 2))[j]!)[t]? = some v → wr.cell? ⟨bb, off + j * 4 + t, none⟩ = some v := fun t v hv => (HB.out.cell (p := ⟨bb, off + j * 4 + t, none⟩) hbb).trans (hr j hlt t v hv)
          have hin : (oddL (s.n / 2))[j]! ∈ R7 := HM7.out _ (by rw [getElem!_pos (oddL (s.n / 2)) j (by rw [HJ.out]; exact hlt)]; exact List.getElem_mem _)
          have HCT := Lib.hid (fun W hs => Contains_any V7 q7 cv7 R7 (oddL (s.n / 2))[j]! W hs HL7.out hq7)
          rw [decide_eq_true hin] at HCT
          generalize (oddL (s.n / 2))[j]! = y at *
          obtain ⟨y1, y2, y3, y4⟩ := y
          have e0 : wr.cell? ⟨bb, off + j * 4, none⟩ = some (.string y1) := hcs 0 _ rfl
          have e1 : wr.cell? ⟨bb, off + j * 4 + 1, none⟩ = some (.int .i64 y2) := hcs 1 _ rfl
          have e2 : wr.cell? ⟨bb, off + j * 4 + 2, none⟩ = some (.int .i64 y3) := hcs 2 _ rfl
          have e3 : wr.cell? ⟨bb, off + j * 4 + 3, none⟩ = some (.int .i64 y4) := hcs 3 _ rfl
          have l1 : (j : Int) < (J : Int) := by omega
          have l0 : (0 : Int) ≤ (j : Int) := by omega
          have hwj : IntKind.i64.wrap ((j : Int) + 1) = (j : Int) + 1 := IntWalk.i64_in _ (by omega)
          clear hcs hr hin
          obtain ⟨wx, hwx⟩ : ∃ W, wr.alloc (.cells #[.string y1, .int .i64 y2, .int .i64 y3, .int .i64 y4] 51) = W := ⟨_, rfl⟩
          have hbx : Below wr.heap.size wr wx := by rw [← hwx]; exact (Below.refl _ _).alloc (Nat.le_refl _) _
          have hyx : wx.heap[wr.heap.size]? = some (.cells #[.string y1, .int .i64 y2, .int .i64 y3, .int .i64 y4] 51 (0, 0)) := by rw [← hwx]; exact heap_alloc_new _ _
          have x0 := cell_of_row wx _ 0 _ 51 (0, 0) hyx
          have x1 := cell_of_row wx _ 1 _ 51 (0, 0) hyx
          have x2 := cell_of_row wx _ 2 _ 51 (0, 0) hyx
          have x3 := cell_of_row wx _ 3 _ 51 (0, 0) hyx
          simp only [List.getElem?_toArray, List.getElem?_cons_zero, List.getElem?_cons_succ] at x0 x1 x2 x3
          have HBX := Lib.hid (HB.out.trans (hbx.mono hzr))
          have HCU := Lib.hid (HCT.out wx ((HS11.out.below HBX.out).more HBX.out.size))
          dsimp only at HCU
          obtain ⟨rr, hrr⟩ : ∃ r, wr.heap.size = r := ⟨_, rfl⟩
          rw [hrr] at x0 x1 x2 x3
          clear hbx hyx
          go_wp2_with (go_at_call 13; go_loud (refine HCU.out.mono ?_; rintro E w9 ⟨rfl, hb9⟩; have HB9 := Lib.hid (HBX.out.trans (hb9.mono HBX.out.size)); clear hb9))
          go_roundw
          case rel => exact ⟨j + 1, by omega, by go_num, HB9⟩
          case measure => simp [intOf]; omega
        · obtain rfl : J = j := by omega
          have HBr := Lib.hid (HX11.out.trans (HB.out.mono HX11.out.size))
          go_wp2_with (go_at_call 9; go_loud (refine (HFA.out _).mono ?_; rintro E w9 ⟨rfl, hb9⟩; have HB9 := Lib.hid (HB1.out.trans ((HBr.out.trans (hb9.mono HBr.out.size)).mono HB1.out.size)); clear hb9))
          go_ret
          exact ⟨rfl, by first | exact HB9.out | (rw [← HG.out]; exact HB9.out)⟩
    · go_simp
      obtain ⟨X1, hX1⟩ : ∃ V, V0.alloc (.cells #[.iface 61 (.agg #[])] 30) = V := ⟨_, rfl⟩
      rw [hX1]
      have HX1 := Lib.hid (show Below w1.heap.size w1 X1 by rw [← hX1]; exact HV0.out.alloc HV0.out.size _)
      have hN1 : X1.heap[V0.heap.size]? = some (.cells #[.iface 61 (.agg #[])] 30 (0, 0)) := by rw [← hX1]; exact heap_alloc_new _ _
      have hlN : V0.heap.size < X1.heap.size := (Array.getElem?_eq_some_iff.1 hN1).1
      refine hK.out _ _ (HSK.out _ HX1.out) (fun hHeld => ?_)
      clear hK K hX1
      try simp only [Act.put, List.setIfInBounds_toArray, List.set_cons_zero, List.set_cons_succ]
      refine wpAnyH_ready (rs := [1]) (by kernel_rfl) (by simp) ?_
      refine AllReadyH.cons (o := ⟨some 14, _, _, _, _, _⟩) rfl (fun K hK => ?_) AllReadyH.nil
      go_simp
      go_at_call 14
      refine (HSV.out X1 HX1.out).mono ?_
      rintro E X2 ⟨V, m, cv, Rl, rfl, hm, hl, ho, hr, hb⟩
      have hzX2 := hb.size
      have HX2 := Lib.hid (HX1.out.trans (hb.mono HX1.out.size))
      have HN := Lib.hid ((hb.block V0.heap.size hlN).trans hN1)
      have HO := Lib.hid ho
      have HR := Lib.hid hr
      have HLn := Lib.hid hl
      have hbase : X1.heap.size ≤ X2.heap.size := hzX2
      have hzX1 : V0.heap.size ≤ X1.heap.size := Nat.le_of_lt hlN
      refine hK.out _ _ (HSK.out _ HX2.out) (fun hHeld => ?_)
      clear hK K ho hr hl hb hN1
      try simp only [Act.put, List.setIfInBounds_toArray, List.set_cons_zero, List.set_cons_succ]
      refine wpAnyH_ready (rs := [5]) (by kernel_rfl) (by simp) ?_
      refine AllReadyH.cons (o := ⟨some 18, _, _, _, _, _⟩) rfl (fun K hK => ?_) AllReadyH.nil
      go_loud (refine step_append_lies X2 rfl (.tmp 14) (.tmp 17) 54 rfl (X1.heap.size) 30 i30 .nilIface 1 16 Try.underlying54 E0 E1 E2 E3 rfl (by decide) (.slice V m cv) m Rl rfl HO.out ⟨V0.heap.size, 0, none⟩ 1 1 [.iface 61 (.agg #[])] rfl rfl (World.news_of_block HN.out) (by simp [Value.oneCell']) (by omega) (by simp only [maxLen]; omega) (by omega) hbase X2.heap.size rfl ?_)
      intro g6 cap6 X6 hv6 hg6 hat6 hlt6
      have HX6 := Lib.hid (show Below w1.heap.size w1 X6 from HX2.out.grown hg6 HX2.out.size (fun k' hk' => by have := (HO.out.lt k' hk').1; omega))
      have HO6 := Lib.hid hv6
      have HR6 := Lib.hid (show ∀ r ∈ Rl, RuM X6 (.slice (some ⟨g6, 0, none⟩) (m + 1) cap6) r from fun r h => (HR.out r h).move (fun p o hp hn => bk_app2 hp hn hg6 hat6))
      refine hK.out _ _ (HSK.out _ HX6.out) (fun hHeld => ?_)
      clear hK K hv6 hg6 hat6 hlt6
      try simp only [Act.put, List.setIfInBounds_toArray, List.set_cons_zero, List.set_cons_succ]
      refine wpAnyH_ready (rs := [7]) (by kernel_rfl) (by simp) ?_
      refine AllReadyH.cons (o := ⟨some 20, _, _, _, _, _⟩) rfl (fun K hK => ?_) AllReadyH.nil
      go_simp
      go_at_call 16
      refine (HAO.out (some ⟨g6, 0, none⟩) m cap6 Rl (.slice (some ⟨g6, 0, none⟩) (m + 1) cap6) X6 (fun W h => HST.out W (HX6.out.trans (h.mono HX6.out.size))) (cells_one HO6.out) HLn.out hm HR6.out).mono ?_
      rintro E X7 ⟨⟨V7, cv7, q7, R7, rfl, hl7, hq7, hmem7, ho7⟩, hb7⟩
      have HX7 := Lib.hid (HX6.out.trans (hb7.mono HX6.out.size))
      have HS7 := Lib.hid (Sl_rows alL_len ho7 hl7 (by decide))
      have HL7 := Lib.hid hl7
      have HM7 := Lib.hid hmem7
      clear hb7 ho7 hl7 hmem7
      refine hK.out _ _ (HSK.out _ HX7.out) (fun hHeld => ?_)
      clear hK K
      try simp only [Act.put, List.setIfInBounds_toArray, List.set_cons_zero, List.set_cons_succ]
      refine wpAnyH_take (i := 8) (oi := ⟨some 12, _, _, _, _, _⟩) (v := ?v10) rfl (by kernel_rfl) (by kernel_rfl) (by kernel_rfl) (fun _ _ _ h => h) (Or.inl ⟨by rfl, ?y10⟩) hHeld ?r10
      case y10 => (intro W hSw; (try dsimp only at hSw); go_simp; try with_reducible rfl)
      try simp only [Act.put, List.setIfInBounds_toArray, List.set_cons_zero, List.set_cons_succ]
      refine wpAnyH_take (i := 9) (oi := ⟨some 21, _, _, _, _, _⟩) (v := ?v11) rfl (by kernel_rfl) (by kernel_rfl) (by kernel_rfl) (fun _ _ _ h => h) (Or.inl ⟨by rfl, ?y11⟩) hHeld ?r11
      case y11 => (intro W hSw; (try dsimp only at hSw); go_simp; try with_reducible rfl)
      try simp only [Act.put, List.setIfInBounds_toArray, List.set_cons_zero, List.set_cons_succ]
      refine wpAnyH_take (i := 10) (oi := ⟨some 22, _, _, _, _, _⟩) (v := ?v12) rfl (by kernel_rfl) (by kernel_rfl) (by kernel_rfl) (fun _ _ _ h => h) (Or.inl ⟨by rfl, ?y12⟩) hHeld ?r12
      case y12 => (intro W hSw; (try dsimp only at hSw); go_simp; try with_reducible rfl)
      try simp only [Act.put, List.setIfInBounds_toArray, List.set_cons_zero, List.set_cons_succ]
      refine wpAnyH_take (i := 11) (oi := ⟨some 5, _, _, _, _, _⟩) (v := ?v13) rfl (by kernel_rfl) (by kernel_rfl) (by kernel_rfl) (fun _ _ _ h => h) (Or.inl ⟨by rfl, ?y13⟩) hHeld ?r13
      case y13 => (intro W hSw; (try dsimp only at hSw); go_simp; try with_reducible rfl)
      try simp only [Act.put, List.setIfInBounds_toArray, List.set_cons_zero, List.set_cons_succ]
      refine wpAnyH_take (i := 12) (oi := ⟨some 6, _, _, _, _, _⟩) (v := ?v14) rfl (by kernel_rfl) (by kernel_rfl) (by kernel_rfl) (fun _ _ _ h => h) (Or.inl ⟨by rfl, ?y14⟩) hHeld ?r14
      case y14 => (intro W hSw; (try dsimp only at hSw); go_simp; try with_reducible rfl)
      try simp only [Act.put, List.setIfInBounds_toArray, List.set_cons_zero, List.set_cons_succ]
      refine wpAnyH_done (by kernel_rfl) ?_ _
      clear hHeld
      have cy := (HX7.out.block g hl0).trans HY.out; have c0 := cell_of_row X7 _ 0 _ 25 (0, 0) cy; have c1 := cell_of_row X7 _ 1 _ 25 (0, 0) cy; have c2 := cell_of_row X7 _ 2 _ 25 (0, 0) cy; simp only [List.getElem?_toArray, List.getElem?_cons_zero, List.getElem?_cons_succ] at c0 c1 c2; clear cy
      obtain ⟨X8, hX8⟩ : ∃ V, X7.alloc (.cells #[.nilIface] 30) = V := ⟨_, rfl⟩
      have hb8 : Below X7.heap.size X7 X8 := by rw [← hX8]; exact (Below.refl _ _).alloc (Nat.le_refl _) _
      have HX8 := Lib.hid (HX7.out.trans (hb8.mono HX7.out.size))
      have hN8 : X8.heap[X7.heap.size]? = some (.cells #[.nilIface] 30 (0, 0)) := by rw [← hX8]; exact heap_alloc_new _ _
      have hl8 : X7.heap.size < X8.heap.size := (Array.getElem?_eq_some_iff.1 hN8).1
      have HA8 := Lib.hid (nil_row hN8)
      have HS8 := Lib.hid ((HS7.out.below hb8).more hb8.size)
      have dy := (HX8.out.block g hl0).trans HY.out; have d0 := cell_of_row X8 _ 0 _ 25 (0, 0) dy; have d1 := cell_of_row X8 _ 1 _ 25 (0, 0) dy; have d2 := cell_of_row X8 _ 2 _ 25 (0, 0) dy; simp only [List.getElem?_toArray, List.getElem?_cons_zero, List.getElem?_cons_succ] at d0 d1 d2; clear dy
      clear hb8
      go_wp2_with (first
        | (go_at_call 16; go_loud (refine (HAN.out (some ⟨X7.heap.size, 0, none⟩) 1 X8 (HST.out X8 HX8.out) HA8.out).mono ?_; rintro E X9 ⟨rfl, hb9⟩; have HX9 := Lib.hid (HX8.out.trans (hb9.mono HX8.out.size)); have HS9 := Lib.hid ((HS8.out.below hb9).more hb9.size); have ey := (HX9.out.block g hl0).trans HY.out; have e0 := cell_of_row X9 _ 0 _ 25 (0, 0) ey; have e1 := cell_of_row X9 _ 1 _ 25 (0, 0) ey; have e2 := cell_of_row X9 _ 2 _ 25 (0, 0) ey; simp only [List.getElem?_toArray, List.getElem?_cons_zero, List.getElem?_cons_succ] at e0 e1 e2; clear ey; clear hb9))
        | (go_at_call 10; go_loud (refine (HCH.out X9 HX9.out).mono ?_; rintro E X10 ⟨rfl, hb10⟩; have HX10 := Lib.hid (HX9.out.trans (hb10.mono HX9.out.size)); have HS10 := Lib.hid ((HS9.out.below hb10).more hb10.size); have ky := (HX10.out.block g hl0).trans HY.out; have k0 := cell_of_row X10 _ 0 _ 25 (0, 0) ky; have k1 := cell_of_row X10 _ 1 _ 25 (0, 0) ky; have k2 := cell_of_row X10 _ 2 _ 25 (0, 0) ky; simp only [List.getElem?_toArray, List.getElem?_cons_zero, List.getElem?_cons_succ] at k0 k1 k2; clear ky; clear hb10))
        | (go_at_call 17; go_loud (refine (HOD.out X10).mono ?_; rintro E X11 ⟨⟨V11, cv11, rfl, ho11⟩, hb11⟩; have HX11 := Lib.hid (HX10.out.trans (hb11.mono HX10.out.size)); have HS11 := Lib.hid ((HS10.out.below hb11).more hb11.size); have HO11 := Lib.hid (Sl_rows alL_len ho11 rfl (by decide)); clear hb11 ho11)))
      obtain ⟨wb, rfl⟩ : ∃ wb, wb = X11 := ⟨_, rfl⟩
      have hK : (oddL (s.n / 2)).length = s.n / 2 := oddL_len _
      have HKK := Lib.hid hK
      obtain ⟨J, hJ⟩ : ∃ J, (oddL (s.n / 2)).length = J := ⟨_, rfl⟩
      rw [hJ] at HO11 ⊢
      have hJ32 : J ≤ 32 := by omega
      have HJ := Lib.hid hJ
      have hJ0 : (0 : Int) ≤ (J : Int) := by omega
      clear hK hJ
      go_loopw [48] (fun x wr => ∃ j : Nat, j ≤ J ∧ x = .int .i64 (j : Int) ∧ Hid (Below wb.heap.size wb wr)) (fun x _ => J - (intOf x).toNat)
      case atStart => exact ⟨0, by omega, rfl, Lib.hid (Below.refl _ _)⟩
      case round =>
        obtain ⟨j, hj, rfl, HB⟩ := hrel
        have hzr := HB.out.size
        by_cases hlt : j < J
        · obtain ⟨bb, off, rfl, hbb, hr⟩ := HO11.out (by omega)
          have hcs : ∀ t v, (alL (oddL (s.n / 2))[j]!)[t]? = some v → wr.cell? ⟨bb, off + j * 4 + t, none⟩ = some v := fun t v hv => (HB.out.cell (p := ⟨bb, off + j * 4 + t, none⟩) hbb).trans (hr j hlt t v hv)
          have hin : (oddL (s.n / 2))[j]! ∈ R7 := HM7.out _ (by rw [getElem!_pos (oddL (s.n / 2)) j (by rw [HJ.out]; exact hlt)]; exact List.getElem_mem _)
          have HCT := Lib.hid (fun W hs => Contains_any V7 q7 cv7 R7 (oddL (s.n / 2))[j]! W hs HL7.out hq7)
          rw [decide_eq_true hin] at HCT
          generalize (oddL (s.n / 2))[j]! = y at *
          obtain ⟨y1, y2, y3, y4⟩ := y
          have e0 : wr.cell? ⟨bb, off + j * 4, none⟩ = some (.string y1) := hcs 0 _ rfl
          have e1 : wr.cell? ⟨bb, off + j * 4 + 1, none⟩ = some (.int .i64 y2) := hcs 1 _ rfl
          have e2 : wr.cell? ⟨bb, off + j * 4 + 2, none⟩ = some (.int .i64 y3) := hcs 2 _ rfl
          have e3 : wr.cell? ⟨bb, off + j * 4 + 3, none⟩ = some (.int .i64 y4) := hcs 3 _ rfl
          have l1 : (j : Int) < (J : Int) := by omega
          have l0 : (0 : Int) ≤ (j : Int) := by omega
          have hwj : IntKind.i64.wrap ((j : Int) + 1) = (j : Int) + 1 := IntWalk.i64_in _ (by omega)
          clear hcs hr hin
          obtain ⟨wx, hwx⟩ : ∃ W, wr.alloc (.cells #[.string y1, .int .i64 y2, .int .i64 y3, .int .i64 y4] 51) = W := ⟨_, rfl⟩
          have hbx : Below wr.heap.size wr wx := by rw [← hwx]; exact (Below.refl _ _).alloc (Nat.le_refl _) _
          have hyx : wx.heap[wr.heap.size]? = some (.cells #[.string y1, .int .i64 y2, .int .i64 y3, .int .i64 y4] 51 (0, 0)) := by rw [← hwx]; exact heap_alloc_new _ _
          have x0 := cell_of_row wx _ 0 _ 51 (0, 0) hyx
          have x1 := cell_of_row wx _ 1 _ 51 (0, 0) hyx
          have x2 := cell_of_row wx _ 2 _ 51 (0, 0) hyx
          have x3 := cell_of_row wx _ 3 _ 51 (0, 0) hyx
          simp only [List.getElem?_toArray, List.getElem?_cons_zero, List.getElem?_cons_succ] at x0 x1 x2 x3
          have HBX := Lib.hid (HB.out.trans (hbx.mono hzr))
          have HCU := Lib.hid (HCT.out wx ((HS11.out.below HBX.out).more HBX.out.size))
          dsimp only at HCU
          obtain ⟨rr, hrr⟩ : ∃ r, wr.heap.size = r := ⟨_, rfl⟩
          rw [hrr] at x0 x1 x2 x3
          clear hbx hyx
          go_wp2_with (go_at_call 13; go_loud (refine HCU.out.mono ?_; rintro E w9 ⟨rfl, hb9⟩; have HB9 := Lib.hid (HBX.out.trans (hb9.mono HBX.out.size)); clear hb9))
          go_roundw
          case rel => exact ⟨j + 1, by omega, by go_num, HB9⟩
          case measure => simp [intOf]; omega
        · obtain rfl : J = j := by omega
          have HBr := Lib.hid (HX11.out.trans (HB.out.mono HX11.out.size))
          go_wp2_with (go_at_call 9; go_loud (refine (HFA.out _).mono ?_; rintro E w9 ⟨rfl, hb9⟩; have HB9 := Lib.hid (HB1.out.trans ((HBr.out.trans (hb9.mono HBr.out.size)).mono HB1.out.size)); clear hb9))
          go_ret
          exact ⟨rfl, by first | exact HB9.out | (rw [← HG.out]; exact HB9.out)⟩
  · have HAB := Lib.hid (fun A m c R w h1 h2 h3 => All_bad A m c R s w h1 h2 h3 hce)
    rw [HVV.out] at HAB
    generalize checkE s = ce at *
    have hpd : (ce == 0) = false := beq_eq_false_iff_ne.2 hce
    have hpe : (ce != 0) = true := bne_iff_ne.2 hce
    clear hce
    go_enter Try.func5, Try.ntmps5
    go_wp2
    refine wp_region_held_drew (S := (fun W => Below w1.heap.size w1 W ∧ W.cell? ⟨g, 0, none⟩ = some (.int .i64 s.tm) ∧ W.cell? ⟨g, 1, none⟩ = some (.slice s.A s.n s.c) ∧ W.cell? ⟨g, 2, none⟩ = some (.slice s.B s.m s.d))) (by kernel_rfl) hs0 (fun hHeld => ?_)
    refine wpAnyH_take (i := 0) (oi := ⟨some 13, _, _, _, _, _⟩) (v := ?v15) rfl (by kernel_rfl) (by kernel_rfl) (by kernel_rfl) (fun _ _ _ h => h) (Or.inl ⟨by rfl, ?y15⟩) hHeld ?r15
    case y15 => (intro W hSw; (try dsimp only at hSw); go_simp; try with_reducible rfl)
    try simp only [Act.put, List.setIfInBounds_toArray, List.set_cons_zero, List.set_cons_succ]
    refine wpAnyH_take (i := 2) (oi := ⟨some 15, _, _, _, _, _⟩) (v := ?v16) rfl (by kernel_rfl) (by kernel_rfl) (by kernel_rfl) (fun _ _ _ h => h) (Or.inl ⟨by rfl, ?y16⟩) hHeld ?r16
    case y16 => (intro W hSw; (try dsimp only at hSw); go_simp; try with_reducible rfl)
    try simp only [Act.put, List.setIfInBounds_toArray, List.set_cons_zero, List.set_cons_succ]
    refine wpAnyH_take (i := 3) (oi := ⟨some 16, _, _, _, _, _⟩) (v := ?v17) rfl (by kernel_rfl) (by kernel_rfl) (by kernel_rfl) (fun _ _ _ h => h) (Or.inl ⟨by rfl, ?y17⟩) hHeld ?r17
    case y17 => (intro W hSw; (try dsimp only at hSw); go_simp; try with_reducible rfl)
    try simp only [Act.put, List.setIfInBounds_toArray, List.set_cons_zero, List.set_cons_succ]
    refine wpAnyH_take (i := 6) (oi := ⟨some 19, _, _, _, _, _⟩) (v := ?v18) rfl (by kernel_rfl) (by kernel_rfl) (by kernel_rfl) (fun _ _ _ h => h) (Or.inl ⟨by rfl, ?y18⟩) hHeld ?r18
    case y18 => (intro W hSw; (try dsimp only at hSw); go_simp; try with_reducible rfl)
    try simp only [Act.put, List.setIfInBounds_toArray, List.set_cons_zero, List.set_cons_succ]
    obtain ⟨V0, hV0⟩ : ∃ V, w1.drew = V := ⟨_, rfl⟩
    rw [hV0]
    have HV0 := Lib.hid (show Below w1.heap.size w1 V0 by rw [← hV0]; exact (Below.refl _ _).drew)
    clear hV0 hHeld hs0
    have hzV0 := HV0.out.size
    refine wpAnyH_ready (rs := [1, 4]) (by kernel_rfl) (by simp) ?_
    refine AllReadyH.cons (o := ⟨some 14, _, _, _, _, _⟩) rfl (fun K hK => ?_) (AllReadyH.cons (o := ⟨some 17, _, _, _, _, _⟩) rfl (fun K hK => ?_) AllReadyH.nil)
    · go_simp
      go_at_call 14
      refine (HSV.out V0 HV0.out).mono ?_
      rintro E X1 ⟨V, m, cv, Rl, rfl, hm, hl, ho, hr, hb⟩
      have hzX1 := hb.size
      have HX1 := Lib.hid (HV0.out.trans (hb.mono HV0.out.size))
      refine hK.out _ _ (HSK.out _ HX1.out) (fun hHeld => ?_)
      clear hK K hHeld
      try simp only [Act.put, List.setIfInBounds_toArray, List.set_cons_zero, List.set_cons_succ]
      refine wpAnyH_ready (rs := [4]) (by kernel_rfl) (by simp) ?_
      refine AllReadyH.cons (o := ⟨some 17, _, _, _, _, _⟩) rfl (fun K hK => ?_) AllReadyH.nil
      go_simp
      obtain ⟨X2, hX2⟩ : ∃ V, X1.alloc (.cells #[.iface 61 (.agg #[])] 30) = V := ⟨_, rfl⟩
      rw [hX2]
      have HX2 := Lib.hid (show Below w1.heap.size w1 X2 by rw [← hX2]; exact HX1.out.alloc HX1.out.size _)
      have hb2 : Below X1.heap.size X1 X2 := by rw [← hX2]; exact (Below.refl _ _).alloc (Nat.le_refl _) _
      have HN := Lib.hid (show X2.heap[X1.heap.size]? = some (.cells #[.iface 61 (.agg #[])] 30 (0, 0)) by rw [← hX2]; exact heap_alloc_new _ _)
      have HO := Lib.hid (own_below ho hb2 (Nat.le_refl _))
      have HR := Lib.hid (fun r h => (hr r h).below hb2)
      have HLn := Lib.hid hl
      have hbase : V0.heap.size ≤ X2.heap.size := Nat.le_trans hzX1 hb2.size
      refine hK.out _ _ (HSK.out _ HX2.out) (fun hHeld => ?_)
      clear hK K hX2 ho hr hl hb hb2
      try simp only [Act.put, List.setIfInBounds_toArray, List.set_cons_zero, List.set_cons_succ]
      refine wpAnyH_ready (rs := [5]) (by kernel_rfl) (by simp) ?_
      refine AllReadyH.cons (o := ⟨some 18, _, _, _, _, _⟩) rfl (fun K hK => ?_) AllReadyH.nil
      go_loud (refine step_append_lies X2 rfl (.tmp 14) (.tmp 17) 54 rfl (V0.heap.size) 30 i30 .nilIface 1 16 Try.underlying54 E0 E1 E2 E3 rfl (by decide) (.slice V m cv) m Rl rfl HO.out ⟨X1.heap.size, 0, none⟩ 1 1 [.iface 61 (.agg #[])] rfl rfl (World.news_of_block HN.out) (by simp [Value.oneCell']) (by omega) (by simp only [maxLen]; omega) (by omega) hbase X2.heap.size rfl ?_)
      intro g6 cap6 X6 hv6 hg6 hat6 hlt6
      have HX6 := Lib.hid (show Below w1.heap.size w1 X6 from HX2.out.grown hg6 HX2.out.size (fun k' hk' => by have := (HO.out.lt k' hk').1; omega))
      have HO6 := Lib.hid hv6
      have HR6 := Lib.hid (show ∀ r ∈ Rl, RuM X6 (.slice (some ⟨g6, 0, none⟩) (m + 1) cap6) r from fun r h => (HR.out r h).move (fun p o hp hn => bk_app2 hp hn hg6 hat6))
      refine hK.out _ _ (HSK.out _ HX6.out) (fun hHeld => ?_)
      clear hK K hv6 hg6 hat6 hlt6
      try simp only [Act.put, List.setIfInBounds_toArray, List.set_cons_zero, List.set_cons_succ]
      refine wpAnyH_ready (rs := [7]) (by kernel_rfl) (by simp) ?_
      refine AllReadyH.cons (o := ⟨some 20, _, _, _, _, _⟩) rfl (fun K hK => ?_) AllReadyH.nil
      go_simp
      go_at_call 16
      refine (HAB.out (some ⟨g6, 0, none⟩) (m + 1) cap6 (fun i => (Rl ++ [oddV])[i]!) X6 (HST.out X6 HX6.out) (cells_one HO6.out) (by omega)).mono ?_
      rintro E X7 ⟨rfl, hb7⟩
      have HX7 := Lib.hid (HX6.out.trans (hb7.mono HX6.out.size))
      clear hb7
      refine hK.out _ _ (HSK.out _ HX7.out) (fun hHeld => ?_)
      clear hK K
      try simp only [Act.put, List.setIfInBounds_toArray, List.set_cons_zero, List.set_cons_succ]
      refine wpAnyH_take (i := 8) (oi := ⟨some 12, _, _, _, _, _⟩) (v := ?v19) rfl (by kernel_rfl) (by kernel_rfl) (by kernel_rfl) (fun _ _ _ h => h) (Or.inl ⟨by rfl, ?y19⟩) hHeld ?r19
      case y19 => (intro W hSw; (try dsimp only at hSw); go_simp; try with_reducible rfl)
      try simp only [Act.put, List.setIfInBounds_toArray, List.set_cons_zero, List.set_cons_succ]
      refine wpAnyH_take (i := 9) (oi := ⟨some 21, _, _, _, _, _⟩) (v := ?v20) rfl (by kernel_rfl) (by kernel_rfl) (by kernel_rfl) (fun _ _ _ h => h) (Or.inl ⟨by rfl, ?y20⟩) hHeld ?r20
      case y20 => (intro W hSw; (try dsimp only at hSw); go_simp; try with_reducible rfl)
      try simp only [Act.put, List.setIfInBounds_toArray, List.set_cons_zero, List.set_cons_succ]
      refine wpAnyH_take (i := 10) (oi := ⟨some 22, _, _, _, _, _⟩) (v := ?v21) rfl (by kernel_rfl) (by kernel_rfl) (by kernel_rfl) (fun _ _ _ h => h) (Or.inl ⟨by rfl, ?y21⟩) hHeld ?r21
      case y21 => (intro W hSw; (try dsimp only at hSw); go_simp; try with_reducible rfl)
      try simp only [Act.put, List.setIfInBounds_toArray, List.set_cons_zero, List.set_cons_succ]
      refine wpAnyH_take (i := 11) (oi := ⟨some 5, _, _, _, _, _⟩) (v := ?v22) rfl (by kernel_rfl) (by kernel_rfl) (by kernel_rfl) (fun _ _ _ h => h) (Or.inl ⟨by rfl, ?y22⟩) hHeld ?r22
      case y22 => (intro W hSw; (try dsimp only at hSw); go_simp; try with_reducible rfl)
      try simp only [Act.put, List.setIfInBounds_toArray, List.set_cons_zero, List.set_cons_succ]
      refine wpAnyH_take (i := 12) (oi := ⟨some 6, _, _, _, _, _⟩) (v := ?v23) rfl (by kernel_rfl) (by kernel_rfl) (by kernel_rfl) (fun _ _ _ h => h) (Or.inl ⟨by rfl, ?y23⟩) hHeld ?r23
      case y23 => (intro W hSw; (try dsimp only at hSw); go_simp; try with_reducible rfl)
      try simp only [Act.put, List.setIfInBounds_toArray, List.set_cons_zero, List.set_cons_succ]
      refine wpAnyH_done (by kernel_rfl) ?_ _
      clear hHeld
      have cy := (HX7.out.block g hl0).trans HY.out; have c0 := cell_of_row X7 _ 0 _ 25 (0, 0) cy; have c1 := cell_of_row X7 _ 1 _ 25 (0, 0) cy; have c2 := cell_of_row X7 _ 2 _ 25 (0, 0) cy; simp only [List.getElem?_toArray, List.getElem?_cons_zero, List.getElem?_cons_succ] at c0 c1 c2; clear cy
      obtain ⟨X8, hX8⟩ : ∃ V, X7.alloc (.cells #[.nilIface] 30) = V := ⟨_, rfl⟩
      have HX8 := Lib.hid (show Below w1.heap.size w1 X8 by rw [← hX8]; exact HX7.out.alloc HX7.out.size _)
      have hN8 : X8.heap[X7.heap.size]? = some (.cells #[.nilIface] 30 (0, 0)) := by rw [← hX8]; exact heap_alloc_new _ _
      have hl8 : X7.heap.size < X8.heap.size := (Array.getElem?_eq_some_iff.1 hN8).1
      have HA8 := Lib.hid (nil_row hN8)
      have dy := (HX8.out.block g hl0).trans HY.out; have d0 := cell_of_row X8 _ 0 _ 25 (0, 0) dy; have d1 := cell_of_row X8 _ 1 _ 25 (0, 0) dy; have d2 := cell_of_row X8 _ 2 _ 25 (0, 0) dy; simp only [List.getElem?_toArray, List.getElem?_cons_zero, List.getElem?_cons_succ] at d0 d1 d2; clear dy
      go_wp2_with (first
        | (go_at_call 16; go_loud (refine (HAB.out (some ⟨X7.heap.size, 0, none⟩) 1 1 (fun _ => .nilIface) X8 (HST.out X8 HX8.out) HA8.out (by omega)).mono ?_; rintro E X9 ⟨rfl, hb9⟩; have HX9 := Lib.hid (HX8.out.trans (hb9.mono HX8.out.size)); have ey := (HX9.out.block g hl0).trans HY.out; have e0 := cell_of_row X9 _ 0 _ 25 (0, 0) ey; have e1 := cell_of_row X9 _ 1 _ 25 (0, 0) ey; have e2 := cell_of_row X9 _ 2 _ 25 (0, 0) ey; simp only [List.getElem?_toArray, List.getElem?_cons_zero, List.getElem?_cons_succ] at e0 e1 e2; clear ey; clear hb9))
        | (go_at_call 10; go_loud (refine (HCH.out X9 HX9.out).mono ?_; rintro E X10 ⟨rfl, hb10⟩; have HX10 := Lib.hid (HX9.out.trans (hb10.mono HX9.out.size)); clear hb10))
        | (go_at_call 9; go_loud (refine (HFA.out _).mono ?_; rintro E X11 ⟨rfl, hb11⟩; have HX11 := Lib.hid (HX10.out.trans (hb11.mono HX10.out.size)); have HBZ := Lib.hid (HB1.out.trans (HX11.out.mono HB1.out.size)); clear hb11)))
      go_ret
      exact ⟨rfl, by first | exact HBZ.out | (rw [← HG.out]; exact HBZ.out)⟩
    · go_simp
      obtain ⟨X1, hX1⟩ : ∃ V, V0.alloc (.cells #[.iface 61 (.agg #[])] 30) = V := ⟨_, rfl⟩
      rw [hX1]
      have HX1 := Lib.hid (show Below w1.heap.size w1 X1 by rw [← hX1]; exact HV0.out.alloc HV0.out.size _)
      have hN1 : X1.heap[V0.heap.size]? = some (.cells #[.iface 61 (.agg #[])] 30 (0, 0)) := by rw [← hX1]; exact heap_alloc_new _ _
      have hlN : V0.heap.size < X1.heap.size := (Array.getElem?_eq_some_iff.1 hN1).1
      refine hK.out _ _ (HSK.out _ HX1.out) (fun hHeld => ?_)
      clear hK K hX1
      try simp only [Act.put, List.setIfInBounds_toArray, List.set_cons_zero, List.set_cons_succ]
      refine wpAnyH_ready (rs := [1]) (by kernel_rfl) (by simp) ?_
      refine AllReadyH.cons (o := ⟨some 14, _, _, _, _, _⟩) rfl (fun K hK => ?_) AllReadyH.nil
      go_simp
      go_at_call 14
      refine (HSV.out X1 HX1.out).mono ?_
      rintro E X2 ⟨V, m, cv, Rl, rfl, hm, hl, ho, hr, hb⟩
      have hzX2 := hb.size
      have HX2 := Lib.hid (HX1.out.trans (hb.mono HX1.out.size))
      have HN := Lib.hid ((hb.block V0.heap.size hlN).trans hN1)
      have HO := Lib.hid ho
      have HR := Lib.hid hr
      have HLn := Lib.hid hl
      have hbase : X1.heap.size ≤ X2.heap.size := hzX2
      have hzX1 : V0.heap.size ≤ X1.heap.size := Nat.le_of_lt hlN
      refine hK.out _ _ (HSK.out _ HX2.out) (fun hHeld => ?_)
      clear hK K ho hr hl hb hN1
      try simp only [Act.put, List.setIfInBounds_toArray, List.set_cons_zero, List.set_cons_succ]
      refine wpAnyH_ready (rs := [5]) (by kernel_rfl) (by simp) ?_
      refine AllReadyH.cons (o := ⟨some 18, _, _, _, _, _⟩) rfl (fun K hK => ?_) AllReadyH.nil
      go_loud (refine step_append_lies X2 rfl (.tmp 14) (.tmp 17) 54 rfl (X1.heap.size) 30 i30 .nilIface 1 16 Try.underlying54 E0 E1 E2 E3 rfl (by decide) (.slice V m cv) m Rl rfl HO.out ⟨V0.heap.size, 0, none⟩ 1 1 [.iface 61 (.agg #[])] rfl rfl (World.news_of_block HN.out) (by simp [Value.oneCell']) (by omega) (by simp only [maxLen]; omega) (by omega) hbase X2.heap.size rfl ?_)
      intro g6 cap6 X6 hv6 hg6 hat6 hlt6
      have HX6 := Lib.hid (show Below w1.heap.size w1 X6 from HX2.out.grown hg6 HX2.out.size (fun k' hk' => by have := (HO.out.lt k' hk').1; omega))
      have HO6 := Lib.hid hv6
      have HR6 := Lib.hid (show ∀ r ∈ Rl, RuM X6 (.slice (some ⟨g6, 0, none⟩) (m + 1) cap6) r from fun r h => (HR.out r h).move (fun p o hp hn => bk_app2 hp hn hg6 hat6))
      refine hK.out _ _ (HSK.out _ HX6.out) (fun hHeld => ?_)
      clear hK K hv6 hg6 hat6 hlt6
      try simp only [Act.put, List.setIfInBounds_toArray, List.set_cons_zero, List.set_cons_succ]
      refine wpAnyH_ready (rs := [7]) (by kernel_rfl) (by simp) ?_
      refine AllReadyH.cons (o := ⟨some 20, _, _, _, _, _⟩) rfl (fun K hK => ?_) AllReadyH.nil
      go_simp
      go_at_call 16
      refine (HAB.out (some ⟨g6, 0, none⟩) (m + 1) cap6 (fun i => (Rl ++ [oddV])[i]!) X6 (HST.out X6 HX6.out) (cells_one HO6.out) (by omega)).mono ?_
      rintro E X7 ⟨rfl, hb7⟩
      have HX7 := Lib.hid (HX6.out.trans (hb7.mono HX6.out.size))
      clear hb7
      refine hK.out _ _ (HSK.out _ HX7.out) (fun hHeld => ?_)
      clear hK K
      try simp only [Act.put, List.setIfInBounds_toArray, List.set_cons_zero, List.set_cons_succ]
      refine wpAnyH_take (i := 8) (oi := ⟨some 12, _, _, _, _, _⟩) (v := ?v24) rfl (by kernel_rfl) (by kernel_rfl) (by kernel_rfl) (fun _ _ _ h => h) (Or.inl ⟨by rfl, ?y24⟩) hHeld ?r24
      case y24 => (intro W hSw; (try dsimp only at hSw); go_simp; try with_reducible rfl)
      try simp only [Act.put, List.setIfInBounds_toArray, List.set_cons_zero, List.set_cons_succ]
      refine wpAnyH_take (i := 9) (oi := ⟨some 21, _, _, _, _, _⟩) (v := ?v25) rfl (by kernel_rfl) (by kernel_rfl) (by kernel_rfl) (fun _ _ _ h => h) (Or.inl ⟨by rfl, ?y25⟩) hHeld ?r25
      case y25 => (intro W hSw; (try dsimp only at hSw); go_simp; try with_reducible rfl)
      try simp only [Act.put, List.setIfInBounds_toArray, List.set_cons_zero, List.set_cons_succ]
      refine wpAnyH_take (i := 10) (oi := ⟨some 22, _, _, _, _, _⟩) (v := ?v26) rfl (by kernel_rfl) (by kernel_rfl) (by kernel_rfl) (fun _ _ _ h => h) (Or.inl ⟨by rfl, ?y26⟩) hHeld ?r26
      case y26 => (intro W hSw; (try dsimp only at hSw); go_simp; try with_reducible rfl)
      try simp only [Act.put, List.setIfInBounds_toArray, List.set_cons_zero, List.set_cons_succ]
      refine wpAnyH_take (i := 11) (oi := ⟨some 5, _, _, _, _, _⟩) (v := ?v27) rfl (by kernel_rfl) (by kernel_rfl) (by kernel_rfl) (fun _ _ _ h => h) (Or.inl ⟨by rfl, ?y27⟩) hHeld ?r27
      case y27 => (intro W hSw; (try dsimp only at hSw); go_simp; try with_reducible rfl)
      try simp only [Act.put, List.setIfInBounds_toArray, List.set_cons_zero, List.set_cons_succ]
      refine wpAnyH_take (i := 12) (oi := ⟨some 6, _, _, _, _, _⟩) (v := ?v28) rfl (by kernel_rfl) (by kernel_rfl) (by kernel_rfl) (fun _ _ _ h => h) (Or.inl ⟨by rfl, ?y28⟩) hHeld ?r28
      case y28 => (intro W hSw; (try dsimp only at hSw); go_simp; try with_reducible rfl)
      try simp only [Act.put, List.setIfInBounds_toArray, List.set_cons_zero, List.set_cons_succ]
      refine wpAnyH_done (by kernel_rfl) ?_ _
      clear hHeld
      have cy := (HX7.out.block g hl0).trans HY.out; have c0 := cell_of_row X7 _ 0 _ 25 (0, 0) cy; have c1 := cell_of_row X7 _ 1 _ 25 (0, 0) cy; have c2 := cell_of_row X7 _ 2 _ 25 (0, 0) cy; simp only [List.getElem?_toArray, List.getElem?_cons_zero, List.getElem?_cons_succ] at c0 c1 c2; clear cy
      obtain ⟨X8, hX8⟩ : ∃ V, X7.alloc (.cells #[.nilIface] 30) = V := ⟨_, rfl⟩
      have HX8 := Lib.hid (show Below w1.heap.size w1 X8 by rw [← hX8]; exact HX7.out.alloc HX7.out.size _)
      have hN8 : X8.heap[X7.heap.size]? = some (.cells #[.nilIface] 30 (0, 0)) := by rw [← hX8]; exact heap_alloc_new _ _
      have hl8 : X7.heap.size < X8.heap.size := (Array.getElem?_eq_some_iff.1 hN8).1
      have HA8 := Lib.hid (nil_row hN8)
      have dy := (HX8.out.block g hl0).trans HY.out; have d0 := cell_of_row X8 _ 0 _ 25 (0, 0) dy; have d1 := cell_of_row X8 _ 1 _ 25 (0, 0) dy; have d2 := cell_of_row X8 _ 2 _ 25 (0, 0) dy; simp only [List.getElem?_toArray, List.getElem?_cons_zero, List.getElem?_cons_succ] at d0 d1 d2; clear dy
      go_wp2_with (first
        | (go_at_call 16; go_loud (refine (HAB.out (some ⟨X7.heap.size, 0, none⟩) 1 1 (fun _ => .nilIface) X8 (HST.out X8 HX8.out) HA8.out (by omega)).mono ?_; rintro E X9 ⟨rfl, hb9⟩; have HX9 := Lib.hid (HX8.out.trans (hb9.mono HX8.out.size)); have ey := (HX9.out.block g hl0).trans HY.out; have e0 := cell_of_row X9 _ 0 _ 25 (0, 0) ey; have e1 := cell_of_row X9 _ 1 _ 25 (0, 0) ey; have e2 := cell_of_row X9 _ 2 _ 25 (0, 0) ey; simp only [List.getElem?_toArray, List.getElem?_cons_zero, List.getElem?_cons_succ] at e0 e1 e2; clear ey; clear hb9))
        | (go_at_call 10; go_loud (refine (HCH.out X9 HX9.out).mono ?_; rintro E X10 ⟨rfl, hb10⟩; have HX10 := Lib.hid (HX9.out.trans (hb10.mono HX9.out.size)); clear hb10))
        | (go_at_call 9; go_loud (refine (HFA.out _).mono ?_; rintro E X11 ⟨rfl, hb11⟩; have HX11 := Lib.hid (HX10.out.trans (hb11.mono HX10.out.size)); have HBZ := Lib.hid (HB1.out.trans (HX11.out.mono HB1.out.size)); clear hb11)))
      go_ret
      exact ⟨rfl, by first | exact HBZ.out | (rw [← HG.out]; exact HBZ.out)⟩
end Go.Proofs.Ytdmecagdjbjgjaa
