/- RulesSorted's closure, and slices.ContainsFunc of rules with it; the names of rules. -/
import Derived.Test.YtdmecagdjbjgjaaR37
import Derived.Test.YtdmecagdjbjgjaaR20
import Derived.Test.YtdmecagdjbjgjaaR33
namespace Go.Proofs.Ytdmecagdjbjgjaa
open Go.RowKit

theorem Name_any (t : ByteArray) (lv : Int) (w : World) : Calls Try.prog 105 #[.agg #[.string t, .int .i64 lv]] w fun e w' => e = .returned (.string t) ∧ Below w.heap.size w w' := by
  go_enter Try.func105, Try.ntmps105
  go_wp2
  go_ret
  exact ⟨rfl, (Below.refl _ w).alloc (Nat.le_refl _) _⟩

theorem meth_near (nm : ByteArray) (a b c : Int) (W : World) : (method 262 71 (.agg #[.string nm, .int .i64 a, .int .i64 b, .int .i64 c]) "Alerts").run Try.prog W = .ok (106, .agg #[.string nm, .int .i64 a, .int .i64 b, .int .i64 c]) W := by kernel_rfl
theorem meth_single (nm : ByteArray) (a : Int) (k : Nat) (cap : Array Value) (W : World) : (method 262 113 (.agg #[.string nm, .int .i64 a, .func (.func k) #[] cap]) "Alerts").run Try.prog W = .ok (108, .agg #[.string nm, .int .i64 a, .func (.func k) #[] cap]) W := by kernel_rfl
theorem name_near (nm : ByteArray) (a b c : Int) (W : World) : (method 262 71 (.agg #[.string nm, .int .i64 a, .int .i64 b, .int .i64 c]) "Name").run Try.prog W = .ok (105, .agg #[.string nm, .int .i64 a]) W := by kernel_rfl
theorem name_single (nm : ByteArray) (a : Int) (k : Nat) (cap : Array Value) (W : World) : (method 262 113 (.agg #[.string nm, .int .i64 a, .func (.func k) #[] cap]) "Name").run Try.prog W = .ok (105, .agg #[.string nm, .int .i64 a]) W := by kernel_rfl

set_option maxRecDepth 100000 in
set_option maxHeartbeats 8000000 in
theorem cl19_any (AF : Sc → List Al) (nm : ByteArray) (s : Sc) (a : Al) (g p : Nat) (r : Value) (w : World) (hG : RuG w r AF nm) (hgood : Good AF nm) (hS : ∀ W, Below w.heap.size w W → s.at_ W W.heap.size) (hg : w.heap[g]? = some (.cells #[.int .i64 s.tm, .slice s.A s.n s.c, .slice s.B s.m s.d] 25 (0, 0))) (hp : w.heap[p]? = some (.cells #[.string a.r, .int .i64 a.l, .int .i64 a.a, .int .i64 a.b] 51 (0, 0))) :
    Calls Try.prog 19 #[r, .pointer (some ⟨g, 0, none⟩), .pointer (some ⟨p, 0, none⟩)] w fun e w' => e = .returned (.bool (decide (a ∈ AF s))) ∧ Below w.heap.size w w' := by
  have hgl : g < w.heap.size := (Array.getElem?_eq_some_iff.1 hg).1
  have hpl : p < w.heap.size := (Array.getElem?_eq_some_iff.1 hp).1
  have HC0 := Lib.hid (cell_of_row w g 0 _ 25 (0, 0) hg)
  have HC1 := Lib.hid (cell_of_row w g 1 _ 25 (0, 0) hg)
  have HC2 := Lib.hid (cell_of_row w g 2 _ 25 (0, 0) hg)
  have HD0 := Lib.hid (cell_of_row w p 0 _ 51 (0, 0) hp)
  have HD1 := Lib.hid (cell_of_row w p 1 _ 51 (0, 0) hp)
  have HD2 := Lib.hid (cell_of_row w p 2 _ 51 (0, 0) hp)
  have HD3 := Lib.hid (cell_of_row w p 3 _ 51 (0, 0) hp)
  have hlen := hgood.len s
  have HCT := Lib.hid (fun V W cv hs => Contains_any V (AF s).length cv (AF s) a W hs rfl (by omega))
  have HVV : Hid (s.val = .agg #[.int .i64 s.tm, .slice s.A s.n s.c, .slice s.B s.m s.d]) := Lib.hid rfl
  generalize decide (a ∈ AF s) = z at *
  rcases hG with ⟨lv, x1, x2, rfl, hcl⟩ | ⟨lv, x1, x2, rfl, hcl⟩
  · have HAL := Lib.hid (hcl s w.drew (Below.refl _ _).drew (hS w.drew (Below.refl _ _).drew))
    rw [HVV.out] at HAL
    unfold AlsP at HAL
    clear hcl hg hp hS
    have hme1 := meth_near
    have hme2 := meth_single
    go_enter Try.func19, Try.ntmps19
    go_wp2
    refine wp_region_held_drew (S := (fun W => Below w.heap.size w W)) (by kernel_rfl) ((Below.refl _ _).drew) (fun hHeld => ?_)
    refine wpAnyH_take (i := 0) (oi := ⟨some 5, _, _, _, _, _⟩) (v := ?acv0) rfl (by kernel_rfl) (by kernel_rfl) (by kernel_rfl) (fun _ _ _ h => h) (Or.inl ⟨by rfl, ?acy0⟩) hHeld ?acr0
    case acy0 => (intro W hSw; (try dsimp only at hSw); go_simp; try with_reducible rfl)
    try simp only [Act.put, List.setIfInBounds_toArray, List.set_cons_zero, List.set_cons_succ]
    refine wpAnyH_take (i := 1) (oi := ⟨some 6, _, _, _, _, _⟩) (v := ?acv1) rfl (by kernel_rfl) (by kernel_rfl) (by kernel_rfl) (fun _ _ _ h => h) (Or.inl ⟨by rfl, ?acy1⟩) hHeld ?acr1
    case acy1 => (intro W hSw; (try dsimp only at hSw); have f0 := (hSw.cell (p := ⟨g, 0, none⟩) hgl).trans (HC0.out); have f1 := (hSw.cell (p := ⟨g, 1, none⟩) hgl).trans (HC1.out); have f2 := (hSw.cell (p := ⟨g, 2, none⟩) hgl).trans (HC2.out); go_simp; try with_reducible rfl)
    try simp only [Act.put, List.setIfInBounds_toArray, List.set_cons_zero, List.set_cons_succ]
    refine wpAnyH_take (i := 3) (oi := ⟨some 8, _, _, _, _, _⟩) (v := ?acv3) rfl (by kernel_rfl) (by kernel_rfl) (by kernel_rfl) (fun _ _ _ h => h) (Or.inl ⟨by rfl, ?acy3⟩) hHeld ?acr3
    case acy3 => (intro W hSw; (try dsimp only at hSw); have f0 := (hSw.cell (p := ⟨p, 0, none⟩) hpl).trans (HD0.out); have f1 := (hSw.cell (p := ⟨p, 1, none⟩) hpl).trans (HD1.out); have f2 := (hSw.cell (p := ⟨p, 2, none⟩) hpl).trans (HD2.out); have f3 := (hSw.cell (p := ⟨p, 3, none⟩) hpl).trans (HD3.out); go_simp; try with_reducible rfl)
    try simp only [Act.put, List.setIfInBounds_toArray, List.set_cons_zero, List.set_cons_succ]
    refine wpAnyH_ready (rs := [2]) (by kernel_rfl) (by simp) ?_
    refine AllReadyH.cons (o := ⟨some 7, _, _, _, _, _⟩) rfl (fun K hK => ?_) AllReadyH.nil
    go_simp
    first
      | (go_at_call 106; refine HAL.out.mono ?_; rintro E wn ⟨⟨V, cv, rfl, ho⟩, hb⟩)
      | (go_at_call 108; refine HAL.out.mono ?_; rintro E wn ⟨⟨V, cv, rfl, ho⟩, hb⟩)
    have HSl := Lib.hid (Sl_rows alL_len ho rfl (by decide))
    refine hK.out _ _ (hHeld.trans (hb.mono hHeld.size)) (fun hHeld => ?_)
    clear hK K
    try simp only [Act.put, List.setIfInBounds_toArray, List.set_cons_zero, List.set_cons_succ]
    refine wpAnyH_ready (rs := [4]) (by kernel_rfl) (by simp) ?_
    refine AllReadyH.cons (o := ⟨some 9, _, _, _, _, _⟩) rfl (fun K hK => ?_) AllReadyH.nil
    go_simp
    go_at_call 13; refine (HCT.out V wn cv HSl.out).mono ?_; rintro E wm ⟨rfl, hb⟩
    refine hK.out _ _ (hHeld.trans (hb.mono hHeld.size)) (fun hHeld => ?_)
    clear hK K
    try simp only [Act.put, List.setIfInBounds_toArray, List.set_cons_zero, List.set_cons_succ]
    refine wpAnyH_take (i := 5) (oi := ⟨some 4, _, _, _, _, _⟩) (v := ?acv5) rfl (by kernel_rfl) (by kernel_rfl) (by kernel_rfl) (fun _ _ _ h => h) (Or.inl ⟨by rfl, ?acy5⟩) hHeld ?acr5
    case acy5 => (intro W hSw; (try dsimp only at hSw); go_simp; try with_reducible rfl)
    try simp only [Act.put, List.setIfInBounds_toArray, List.set_cons_zero, List.set_cons_succ]
    refine wpAnyH_done (by kernel_rfl) ?_ _
    go_wp2
    go_ret
    exact ⟨rfl, hHeld⟩
  · have HAL := Lib.hid (hcl s w.drew (Below.refl _ _).drew (hS w.drew (Below.refl _ _).drew))
    rw [HVV.out] at HAL
    unfold AlsP at HAL
    clear hcl hg hp hS
    have hme1 := meth_near
    have hme2 := meth_single
    go_enter Try.func19, Try.ntmps19
    go_wp2
    refine wp_region_held_drew (S := (fun W => Below w.heap.size w W)) (by kernel_rfl) ((Below.refl _ _).drew) (fun hHeld => ?_)
    refine wpAnyH_take (i := 0) (oi := ⟨some 5, _, _, _, _, _⟩) (v := ?bcv0) rfl (by kernel_rfl) (by kernel_rfl) (by kernel_rfl) (fun _ _ _ h => h) (Or.inl ⟨by rfl, ?bcy0⟩) hHeld ?bcr0
    case bcy0 => (intro W hSw; (try dsimp only at hSw); go_simp; try with_reducible rfl)
    try simp only [Act.put, List.setIfInBounds_toArray, List.set_cons_zero, List.set_cons_succ]
    refine wpAnyH_take (i := 1) (oi := ⟨some 6, _, _, _, _, _⟩) (v := ?bcv1) rfl (by kernel_rfl) (by kernel_rfl) (by kernel_rfl) (fun _ _ _ h => h) (Or.inl ⟨by rfl, ?bcy1⟩) hHeld ?bcr1
    case bcy1 => (intro W hSw; (try dsimp only at hSw); have f0 := (hSw.cell (p := ⟨g, 0, none⟩) hgl).trans (HC0.out); have f1 := (hSw.cell (p := ⟨g, 1, none⟩) hgl).trans (HC1.out); have f2 := (hSw.cell (p := ⟨g, 2, none⟩) hgl).trans (HC2.out); go_simp; try with_reducible rfl)
    try simp only [Act.put, List.setIfInBounds_toArray, List.set_cons_zero, List.set_cons_succ]
    refine wpAnyH_take (i := 3) (oi := ⟨some 8, _, _, _, _, _⟩) (v := ?bcv3) rfl (by kernel_rfl) (by kernel_rfl) (by kernel_rfl) (fun _ _ _ h => h) (Or.inl ⟨by rfl, ?bcy3⟩) hHeld ?bcr3
    case bcy3 => (intro W hSw; (try dsimp only at hSw); have f0 := (hSw.cell (p := ⟨p, 0, none⟩) hpl).trans (HD0.out); have f1 := (hSw.cell (p := ⟨p, 1, none⟩) hpl).trans (HD1.out); have f2 := (hSw.cell (p := ⟨p, 2, none⟩) hpl).trans (HD2.out); have f3 := (hSw.cell (p := ⟨p, 3, none⟩) hpl).trans (HD3.out); go_simp; try with_reducible rfl)
    try simp only [Act.put, List.setIfInBounds_toArray, List.set_cons_zero, List.set_cons_succ]
    refine wpAnyH_ready (rs := [2]) (by kernel_rfl) (by simp) ?_
    refine AllReadyH.cons (o := ⟨some 7, _, _, _, _, _⟩) rfl (fun K hK => ?_) AllReadyH.nil
    go_simp
    first
      | (go_at_call 106; refine HAL.out.mono ?_; rintro E wn ⟨⟨V, cv, rfl, ho⟩, hb⟩)
      | (go_at_call 108; refine HAL.out.mono ?_; rintro E wn ⟨⟨V, cv, rfl, ho⟩, hb⟩)
    have HSl := Lib.hid (Sl_rows alL_len ho rfl (by decide))
    refine hK.out _ _ (hHeld.trans (hb.mono hHeld.size)) (fun hHeld => ?_)
    clear hK K
    try simp only [Act.put, List.setIfInBounds_toArray, List.set_cons_zero, List.set_cons_succ]
    refine wpAnyH_ready (rs := [4]) (by kernel_rfl) (by simp) ?_
    refine AllReadyH.cons (o := ⟨some 9, _, _, _, _, _⟩) rfl (fun K hK => ?_) AllReadyH.nil
    go_simp
    go_at_call 13; refine (HCT.out V wn cv HSl.out).mono ?_; rintro E wm ⟨rfl, hb⟩
    refine hK.out _ _ (hHeld.trans (hb.mono hHeld.size)) (fun hHeld => ?_)
    clear hK K
    try simp only [Act.put, List.setIfInBounds_toArray, List.set_cons_zero, List.set_cons_succ]
    refine wpAnyH_take (i := 5) (oi := ⟨some 4, _, _, _, _, _⟩) (v := ?bcv5) rfl (by kernel_rfl) (by kernel_rfl) (by kernel_rfl) (fun _ _ _ h => h) (Or.inl ⟨by rfl, ?bcy5⟩) hHeld ?bcr5
    case bcy5 => (intro W hSw; (try dsimp only at hSw); go_simp; try with_reducible rfl)
    try simp only [Act.put, List.setIfInBounds_toArray, List.set_cons_zero, List.set_cons_succ]
    refine wpAnyH_done (by kernel_rfl) ?_ _
    go_wp2
    go_ret
    exact ⟨rfl, hHeld⟩

set_option maxRecDepth 100000 in
set_option maxHeartbeats 8000000 in
theorem rules_has (V : Option Addr) (m cv : Nat) (Rl : List Value) (AF : Nat → Sc → List Al) (nm : Nat → ByteArray) (s : Sc) (a : Al) (g p : Nat) (w : World) (hV : Sl w w.heap.size 1 V m (fun i => [Rl[i]!])) (hm : m ≤ 16)
    (hR : ∀ i, i < m → RuG w Rl[i]! (AF i) (nm i) ∧ Good (AF i) (nm i)) (hS : ∀ W, Below w.heap.size w W → s.at_ W W.heap.size) (hg : w.heap[g]? = some (.cells #[.int .i64 s.tm, .slice s.A s.n s.c, .slice s.B s.m s.d] 25 (0, 0))) (hp : w.heap[p]? = some (.cells #[.string a.r, .int .i64 a.l, .int .i64 a.a, .int .i64 a.b] 51 (0, 0)))
    (hex : ∃ i, i < m ∧ a ∈ AF i s) :
    Calls Try.prog 39 #[.slice V m cv, .func (.func 19) #[] #[.pointer (some ⟨g, 0, none⟩), .pointer (some ⟨p, 0, none⟩)]] w fun e w' => (∃ i : Nat, e = .returned (.int .i64 (i : Int))) ∧ Below w.heap.size w w' := by
  have hgl : g < w.heap.size := (Array.getElem?_eq_some_iff.1 hg).1
  have hpl : p < w.heap.size := (Array.getElem?_eq_some_iff.1 hp).1
  have HV := Lib.hid hV
  have HX := Lib.hid hex
  have HCL := Lib.hid (fun i (hi : i < m) W (h : Below w.heap.size w W) => cl19_any (AF i) (nm i) s a g p Rl[i]! W ((hR i hi).1.below h) (hR i hi).2 (fun W' h' => hS W' (h.trans (h'.mono h.size))) ((h.block g hgl).trans hg) ((h.block p hpl).trans hp))
  have hm0 : (0 : Int) ≤ (m : Int) := by omega
  clear hV hex hR hS hg hp
  go_enter Try.func39, Try.ntmps39
  go_wp2
  go_loopw [5, 8] (fun _ i wr => ∃ j : Nat, j ≤ m ∧ i = .int .i64 (j : Int) ∧ Hid (∀ i, i < j → a ∉ AF i s) ∧ Hid (Below w.heap.size w wr)) (fun _ i _ => m - (intOf i).toNat)
  case atStart => exact ⟨0, by omega, rfl, Lib.hid (fun i hi => by omega), Lib.hid (Below.refl _ _)⟩
  case round =>
    obtain ⟨j, hj, rfl, HN, HB⟩ := hrel
    have hzr := HB.out.size
    by_cases hlt : j < m
    · obtain ⟨bb, off, rfl, hbb, hr⟩ := HV.out (by omega)
      have d0 : wr.cell? ⟨bb, off + j, none⟩ = some Rl[j]! := (HB.out.cell (p := ⟨bb, off + j, none⟩) hbb).trans (by have := hr j hlt 0 _ rfl; rwa [Nat.mul_one, Nat.add_zero] at this)
      have HC := Lib.hid (HCL.out j hlt wr HB.out)
      have HDj : Hid (decide (a ∈ AF j s) = false → ∀ i, i < j + 1 → a ∉ AF i s) := Lib.hid (fun h i hi => by
        rcases Nat.lt_or_ge i j with h2 | h2
        · exact HN.out i h2
        · obtain rfl : i = j := by omega
          simpa using h)
      generalize decide (a ∈ AF j s) = z at *
      generalize Rl[j]! = r at *
      have l1 : (j : Int) < (m : Int) := by omega
      have l0 : (0 : Int) ≤ (j : Int) := by omega
      have hwj : IntKind.i64.wrap ((j : Int) + 1) = (j : Int) + 1 := IntWalk.i64_in _ (by omega)
      clear hr
      cases z
      · have HN2 := Lib.hid (HDj.out rfl)
        go_wp2_with (go_at_call 19; go_loud (refine HC.out.mono ?_; rintro E w3 ⟨rfl, hb3⟩; have HB3 := Lib.hid (HB.out.trans (hb3.mono hzr)); clear hb3))
        go_roundw
        case rel => exact ⟨j + 1, by omega, by go_num, HN2, HB3⟩
        case measure => simp [intOf]; omega
      · go_wp2_with (go_at_call 19; go_loud (refine HC.out.mono ?_; rintro E w3 ⟨rfl, hb3⟩; have HB3 := Lib.hid (HB.out.trans (hb3.mono hzr)); clear hb3))
        go_ret
        exact ⟨⟨j, rfl⟩, HB3.out⟩
    · obtain ⟨i, h1, h2⟩ := HX.out
      exact absurd h2 (HN.out i (by omega))

set_option maxHeartbeats 4000000 in
theorem rules_contain (V : Option Addr) (m cv : Nat) (Rl : List Value) (AF : Nat → Sc → List Al) (nm : Nat → ByteArray) (s : Sc) (a : Al) (g p : Nat) (w : World) (hV : Sl w w.heap.size 1 V m (fun i => [Rl[i]!])) (hm : m ≤ 16)
    (hR : ∀ i, i < m → RuG w Rl[i]! (AF i) (nm i) ∧ Good (AF i) (nm i)) (hS : ∀ W, Below w.heap.size w W → s.at_ W W.heap.size) (hg : w.heap[g]? = some (.cells #[.int .i64 s.tm, .slice s.A s.n s.c, .slice s.B s.m s.d] 25 (0, 0))) (hp : w.heap[p]? = some (.cells #[.string a.r, .int .i64 a.l, .int .i64 a.a, .int .i64 a.b] 51 (0, 0)))
    (hex : ∃ i, i < m ∧ a ∈ AF i s) :
    Calls Try.prog 18 #[.slice V m cv, .func (.func 19) #[] #[.pointer (some ⟨g, 0, none⟩), .pointer (some ⟨p, 0, none⟩)]] w fun e w' => e = .returned (.bool true) ∧ Below w.heap.size w w' := by
  have HI := Lib.hid (rules_has V m cv Rl AF nm s a g p w hV hm hR hS hg hp hex)
  clear hV hR hS hg hp hex
  go_enter Try.func18, Try.ntmps18
  go_wp2_with (go_at_call 39; go_loud (refine HI.out.mono ?_; rintro E w3 ⟨⟨i, rfl⟩, hb3⟩; have hi0 : (0 : Int) ≤ (i : Int) := (by omega)))
  go_ret
  exact ⟨by first | rfl | simp, hb3⟩
end Go.Proofs.Ytdmecagdjbjgjaa
