/- Package approach: search as a whole, Order. -/
import Derived.Test.YtmdfdjgeaemicaaE2
import Derived.Laws.MakeOwn
import Derived.Lib.SliceRun
namespace Go.Proofs.Ytmdfdjgeaemicaa
open Go.RowKit Go.Lib

theorem search_end (its : Nat → It) (N : Nat) (A : Option Addr) (cl B ub cu : Nat) (O : Option Addr) (co : Nat) (T : Option Addr) (ct : Nat) (s : List Nat) (ts : List Int) (us : List Bool) (G : Array Value) (g : Nat → Int) (w : World)
    (hP : Pre its N A B ub cu N O co T ct s ts us w) (hN0 : 0 < N) :
    Calls Try.prog 24 #[.slice A N cl, .agg G, .slice O N co, .slice T N ct, .slice (some ⟨ub, 0, none⟩) N cu] w (SrchP (srch g its N 0 s ts us) N B ub cu us w) := by
  obtain ⟨bo, oo, rfl, _, _⟩ := hP.hO hN0
  have HP := Lib.hid hP
  have HL := Lib.hid hP.ls
  have hb0 : Below w.heap.size w (w.alloc (.cells G 24)) := (Below.refl _ _).alloc (Nat.le_refl _) _
  clear hP
  go_enter Try.func24, Try.ntmps24
  go_wp2_with fail
  go_ret
  refine ⟨some ⟨bo, oo, none⟩, co, ?_, (fun h => by cases h), (fun _ h => by cases h), ?_, gb_of_below hb0, (fun h => by cases h)⟩
  · show _ = Ending.returned (.slice (some ⟨bo, oo, none⟩) s.length co)
    rw [HL.out]; rfl
  · show Sl _ _ 1 _ s.length (fun i => natV s[i]!)
    rw [HL.out]; exact (HP.out.hO.below hb0).more hb0.size
theorem search_all (its : Nat → It) (N : Nat) (A : Option Addr) (cl B ub cu : Nat) (G : Array Value) (g : Nat → Int) (hN : N ≤ 6) (hN0 : 0 < N) (hG : Gaps G g) (hg : ∀ i, i < 16 → gapOk (g i)) (hi : ∀ i, i < N → (its i).ok) :
    ∀ (f n : Nat), n + f = N → ∀ (O : Option Addr) (co : Nat) (T : Option Addr) (ct : Nat) (s : List Nat) (ts : List Int) (us : List Bool) (w : World), Pre its N A B ub cu n O co T ct s ts us w →
      Calls Try.prog 24 #[.slice A N cl, .agg G, .slice O n co, .slice T n ct, .slice (some ⟨ub, 0, none⟩) N cu] w (SrchP (srch g its N f s ts us) N B ub cu us w)
  | 0, n, hn, O, co, T, ct, s, ts, us, w, hP => by
    obtain rfl : n = N := by omega
    exact search_end its n A cl B ub cu O co T ct s ts us G g w hP hN0
  | f + 1, n, hn, O, co, T, ct, s, ts, us, w, hP =>
    search_step its N A cl B ub cu n O co T ct s ts us G g f w hP hN hn hG hg hi (fun O co T ct s ts us w h => search_all its N A cl B ub cu G g hN hN0 hG hg hi f (n + 1) (by omega) O co T ct s ts us w h)
theorem search_any (its : Nat → It) (N : Nat) (A : Option Addr) (cl B ub cu : Nat) (G : Array Value) (g : Nat → Int) (hN : N ≤ 6) (hN0 : 0 < N) (hG : Gaps G g) (hg : ∀ i, i < 16 → gapOk (g i)) (hi : ∀ i, i < N → (its i).ok) (w : World)
    (hA : Sl w B 4 A N (fun i => (its i).row)) (hU : w.ownsRow B 4 1 (.slice (some ⟨ub, 0, none⟩) N cu) N (boolsV (List.replicate N false))) (hB : B ≤ ub) (hu : ub < w.heap.size) :
    Calls Try.prog 24 #[.slice A N cl, .agg G, .slice none 0 0, .slice none 0 0, .slice (some ⟨ub, 0, none⟩) N cu] w (SrchP (srch g its N N [] [] (List.replicate N false)) N B ub cu (List.replicate N false) w) :=
  search_all its N A cl B ub cu G g hN hN0 hG hg hi N 0 (by omega) none 0 none 0 [] [] _ w
    { hA := hA, hO := Sl.none_, hT := Sl.none_, hU := hU, oO := fun a e => by (cases e), oT := fun a e => by (cases e), nO := fun _ => ⟨rfl, rfl⟩, nT := fun _ => ⟨rfl, rfl⟩, ls := rfl, lt := rfl, lu := by simp, bs := fun k hk => by omega, bt := fun k hk => by omega, cO := Nat.le_refl _, cT := Nat.le_refl _, bB := hB, bU := hu }

/-- Order: arrivals that are not valid. -/
theorem Order_bad (A : Option Addr) (n c : Nat) (its : Nat → It) (G : Array Value) (g : Nat → Int) (w : World) (hA : Sl w w.heap.size 4 A n (fun i => (its i).row)) (hn : n ≤ maxLen) (hG : Gaps G g)
    (hc : checkCode n its g ≠ 0) :
    Calls Try.prog 16 #[.slice A n c, .agg G] w fun e w' => e = .returned (.tuple #[.slice none 0 0, .int .i64 (checkCode n its g)]) ∧ Below w.heap.size w w' := by
  have HS := Lib.hid hG.1
  have hb0 : Below w.heap.size w (w.alloc (.cells G 24)) := (Below.refl _ _).alloc (Nat.le_refl _) _
  have hA1 := (hA.below hb0).more hb0.size
  have hne : (checkCode n its g != 0) = true := by rw [bne_iff_ne]; exact hc
  have hne2 : (checkCode n its g == 0) = false := beq_eq_false_iff_ne.2 hc
  go_enter Try.func16, Try.ntmps16
  go_wp2_with (first
    | (refine wpList_load_row rfl 24 _ rfl w.heap.size rfl 24 G (0, 0) _ (heap_alloc_new w _) Try.underlying24 rfl (by rw [HS.out]; kernel_rfl) ?_)
    | (go_at_call 10; refine (Check_any A n c its G g _ hA1 hn hG).mono ?_; rintro e w1 ⟨rfl, hb1⟩))
  go_ret2
  exact ⟨rfl, hb0.trans (hb1.mono hb0.size)⟩
/-- Order: no arrivals. -/
theorem Order_zero (A : Option Addr) (c : Nat) (its : Nat → It) (G : Array Value) (g : Nat → Int) (w : World) (hG : Gaps G g) (hc : checkCode 0 its g = 0) :
    Calls Try.prog 16 #[.slice A 0 c, .agg G] w fun e w' => e = .returned (.tuple #[.slice none 0 0, .int .i64 0]) ∧ Below w.heap.size w w' := by
  have HS := Lib.hid hG.1
  have HC := Lib.hid hc
  have hb0 : Below w.heap.size w (w.alloc (.cells G 24)) := (Below.refl _ _).alloc (Nat.le_refl _) _
  have hA1 : Sl (w.alloc (.cells G 24)) (w.alloc (.cells G 24)).heap.size 4 A 0 (fun i => (its i).row) := fun h => absurd h (by omega)
  clear hc
  go_enter Try.func16, Try.ntmps16
  go_wp2_with (first
    | (refine wpList_load_row rfl 24 _ rfl w.heap.size rfl 24 G (0, 0) _ (heap_alloc_new w _) Try.underlying24 rfl (by rw [HS.out]; kernel_rfl) ?_)
    | (go_at_call 10; refine (Check_any A 0 c its G g _ hA1 (by decide) hG).mono ?_; rintro e w1 ⟨rfl, hb1⟩; rw [HC.out]))
  go_ret2
  exact ⟨rfl, hb0.trans (hb1.mono hb0.size)⟩
theorem bool_info : (Try.prog.info? 4).map (fun i => (i.zero, i.size, i.bytes)) = some (some (.bool false), 1, 1) := by kernel_rfl
theorem made_bools (n : Nat) : (madeCells (Value.bool false).cells (n * 1)).toList = boolsV (List.replicate n false) := by
  apply List.ext_getElem
  · simp [madeCells, boolsV]
  · intro i h1 h2
    simp [madeCells, boolsV, Value.cells, Nat.mod_one]

set_option maxRecDepth 100000 in
set_option maxHeartbeats 2000000 in
theorem Order_none (A : Option Addr) (n c : Nat) (its : Nat → It) (G : Array Value) (g : Nat → Int) (w : World) (hA : Sl w w.heap.size 4 A n (fun i => (its i).row)) (hn : n ≤ 6) (hn0 : 0 < n) (hG : Gaps G g) (hc : checkCode n its g = 0)
    (ho : srch g its n n [] [] (List.replicate n false) = none) :
    Calls Try.prog 16 #[.slice A n c, .agg G] w fun e w' => e = .returned (.tuple #[.slice none 0 0, .int .i64 8]) ∧ Below w.heap.size w w' := by
  obtain rfl := hG.ex
  obtain ⟨_, hgap, hits⟩ := checkCode_inv hc
  have HS := Lib.hid hG.1
  have HGG := Lib.hid hG
  have HC := Lib.hid hc
  have hb0 : Below w.heap.size w (w.alloc (.cells (exG g) 24)) := (Below.refl _ _).alloc (Nat.le_refl _) _
  have hA1 := (hA.below hb0).more hb0.size
  have HSr := Lib.hid (fun (W : World) ub cu h1 h2 h3 h4 => search_any its n A c w.heap.size ub cu (exG g) g hn hn0 hG hgap hits W h1 h2 h3 h4)
  rw [ho] at HSr
  obtain ⟨i4, F0, F1, F2, F3⟩ := info_parts bool_info
  have hn6 : decide ((n : Int) > 6) = false := by simp; omega
  have hn7 : ((n : Int) == 0) = false := by simp; omega
  clear hc hG hgap hits ho
  go_enter Try.func16, Try.ntmps16
  go_wp2_with (first
    | (refine wpList_load_row rfl 24 _ rfl w.heap.size rfl 24 (exG g) (0, 0) _ (heap_alloc_new w _) Try.underlying24 rfl (by rw [HS.out]; kernel_rfl) ?_)
    | (go_at_call 10; refine (Check_any A n c its (exG g) g _ hA1 (by unfold maxLen; omega) HGG.out).mono ?_; rintro e w1 ⟨rfl, hb1⟩; rw [HC.out]))
  have hx1 : w1.heap[w.heap.size]? = some (.cells (exG g) 24 (0, 0)) := (hb1.block _ (by simp)).trans (heap_alloc_new w _)
  have HB1 := Lib.hid (hb0.trans (hb1.mono hb0.size))
  clear hb1
  obtain ⟨w2, hm, hown, hgr⟩ := run_makeSlice_full (w := w1.drew) w1.heap.size 48 4 i4 (.bool false) 1 Try.underlying48 F0 F1 F2 .i64 .i64 n (by omega) (by rw [F3]; omega) (by unfold maxLen; omega) (Nat.le_refl _)
  have HM := Lib.hid (show Below w1.heap.size w1 w2 from (Below.refl _ w1).drew.trans (below_grow hgr))
  rw [made_bools] at hown
  have HO := Lib.hid hown
  have hs0 : w1.drew.heap[w.heap.size]? = some (.cells (exG g) 24 (0, 0)) := hx1
  have hs2 : w2.heap[w.heap.size]? = some (.cells (exG g) 24 (0, 0)) := (HM.out.block _ (Array.getElem?_eq_some_iff.1 hx1).1).trans hx1
  have HZ := Lib.hid HB1.out.size
  have hu2 : w1.heap.size < w2.heap.size := by
    rcases HO.out.2 with ⟨h, _⟩ | ⟨g', cap', cur, h', _, hg, _⟩
    · simp at h
    · simp only [Value.slice.injEq, Option.some.injEq, Addr.mk.injEq, and_true, true_and] at h'
      have h1 : w1.heap.size = g' := h'.1
      rw [h1]; exact (Array.getElem?_eq_some_iff.1 hg).1
  have HA2 := Lib.hid (hA.below (HB1.out.trans (HM.out.mono HZ.out)))
  clear hown hgr hx1 hA hA1
  have q0 := exG_cell (g := g) (N := w.heap.size) (k := 0) (by decide) HGG.out
  have q1 := exG_cell (g := g) (N := w.heap.size) (k := 1) (by decide) HGG.out
  have q2 := exG_cell (g := g) (N := w.heap.size) (k := 2) (by decide) HGG.out
  have q3 := exG_cell (g := g) (N := w.heap.size) (k := 3) (by decide) HGG.out
  have q4 := exG_cell (g := g) (N := w.heap.size) (k := 4) (by decide) HGG.out
  have q5 := exG_cell (g := g) (N := w.heap.size) (k := 5) (by decide) HGG.out
  have q6 := exG_cell (g := g) (N := w.heap.size) (k := 6) (by decide) HGG.out
  have q7 := exG_cell (g := g) (N := w.heap.size) (k := 7) (by decide) HGG.out
  have q8 := exG_cell (g := g) (N := w.heap.size) (k := 8) (by decide) HGG.out
  have q9 := exG_cell (g := g) (N := w.heap.size) (k := 9) (by decide) HGG.out
  have q10 := exG_cell (g := g) (N := w.heap.size) (k := 10) (by decide) HGG.out
  have q11 := exG_cell (g := g) (N := w.heap.size) (k := 11) (by decide) HGG.out
  have q12 := exG_cell (g := g) (N := w.heap.size) (k := 12) (by decide) HGG.out
  have q13 := exG_cell (g := g) (N := w.heap.size) (k := 13) (by decide) HGG.out
  have q14 := exG_cell (g := g) (N := w.heap.size) (k := 14) (by decide) HGG.out
  have q15 := exG_cell (g := g) (N := w.heap.size) (k := 15) (by decide) HGG.out
  go_region_held3 (fun W => W.heap[w.heap.size]? = some (.cells (exG g) 24 (0, 0))) (first | assumption | exact gb_box (by assumption) hs2 (by have := HZ.out; have := (Array.getElem?_eq_some_iff.1 hs0).1; change _ < w1.heap.size at this; omega)) (first
    | (go_at_call 24; go_loud (refine (HSr.out w2 w1.heap.size n HA2.out (own_mono HO.out HZ.out) HZ.out hu2).mono ?_; rintro e w3 h; obtain ⟨rfl, ⟨_, hb3⟩, _⟩ := h.no)))
  all_goals
    have hk1 := fun (W : World) (a : Option Addr) (m c : Nat) => Lib.run_eql_slice_nil (P := Try.prog) W 25 3 a m c 0 0 Try.underlying25
    go_wp2_with fail
    go_ret2
    exact ⟨rfl, HB1.out.trans ((HM.out.grown hb3 (Nat.le_trans HM.out.size (Nat.le_refl _)) (fun k hk => by cases hk; exact Nat.le_refl _)).mono HZ.out)⟩

set_option maxRecDepth 100000 in
set_option maxHeartbeats 2000000 in
theorem Order_some (A : Option Addr) (n c : Nat) (its : Nat → It) (G : Array Value) (g : Nat → Int) (o : List Nat) (w : World) (hA : Sl w w.heap.size 4 A n (fun i => (its i).row)) (hn : n ≤ 6) (hn0 : 0 < n) (hG : Gaps G g) (hc : checkCode n its g = 0)
    (ho : srch g its n n [] [] (List.replicate n false) = some o) :
    Calls Try.prog 16 #[.slice A n c, .agg G] w fun e w' => (∃ a c, e = .returned (.tuple #[.slice (some a) o.length c, .int .i64 0]) ∧ Sl w' w'.heap.size 1 (some a) o.length (fun i => natV o[i]!)) ∧ Below w.heap.size w w' := by
  obtain rfl := hG.ex
  obtain ⟨_, hgap, hits⟩ := checkCode_inv hc
  have HS := Lib.hid hG.1
  have HGG := Lib.hid hG
  have HC := Lib.hid hc
  have hb0 : Below w.heap.size w (w.alloc (.cells (exG g) 24)) := (Below.refl _ _).alloc (Nat.le_refl _) _
  have hA1 := (hA.below hb0).more hb0.size
  have HSr := Lib.hid (fun (W : World) ub cu h1 h2 h3 h4 => search_any its n A c w.heap.size ub cu (exG g) g hn hn0 hG hgap hits W h1 h2 h3 h4)
  rw [ho] at HSr
  obtain ⟨i4, F0, F1, F2, F3⟩ := info_parts bool_info
  have hn6 : decide ((n : Int) > 6) = false := by simp; omega
  have hn7 : ((n : Int) == 0) = false := by simp; omega
  clear hc hG hgap hits ho
  go_enter Try.func16, Try.ntmps16
  go_wp2_with (first
    | (refine wpList_load_row rfl 24 _ rfl w.heap.size rfl 24 (exG g) (0, 0) _ (heap_alloc_new w _) Try.underlying24 rfl (by rw [HS.out]; kernel_rfl) ?_)
    | (go_at_call 10; refine (Check_any A n c its (exG g) g _ hA1 (by unfold maxLen; omega) HGG.out).mono ?_; rintro e w1 ⟨rfl, hb1⟩; rw [HC.out]))
  have hx1 : w1.heap[w.heap.size]? = some (.cells (exG g) 24 (0, 0)) := (hb1.block _ (by simp)).trans (heap_alloc_new w _)
  have HB1 := Lib.hid (hb0.trans (hb1.mono hb0.size))
  clear hb1
  obtain ⟨w2, hm, hown, hgr⟩ := run_makeSlice_full (w := w1.drew) w1.heap.size 48 4 i4 (.bool false) 1 Try.underlying48 F0 F1 F2 .i64 .i64 n (by omega) (by rw [F3]; omega) (by unfold maxLen; omega) (Nat.le_refl _)
  have HM := Lib.hid (show Below w1.heap.size w1 w2 from (Below.refl _ w1).drew.trans (below_grow hgr))
  rw [made_bools] at hown
  have HO := Lib.hid hown
  have hs0 : w1.drew.heap[w.heap.size]? = some (.cells (exG g) 24 (0, 0)) := hx1
  have hs2 : w2.heap[w.heap.size]? = some (.cells (exG g) 24 (0, 0)) := (HM.out.block _ (Array.getElem?_eq_some_iff.1 hx1).1).trans hx1
  have HZ := Lib.hid HB1.out.size
  have hu2 : w1.heap.size < w2.heap.size := by
    rcases HO.out.2 with ⟨h, _⟩ | ⟨g', cap', cur, h', _, hg, _⟩
    · simp at h
    · simp only [Value.slice.injEq, Option.some.injEq, Addr.mk.injEq, and_true, true_and] at h'
      have h1 : w1.heap.size = g' := h'.1
      rw [h1]; exact (Array.getElem?_eq_some_iff.1 hg).1
  have HA2 := Lib.hid (hA.below (HB1.out.trans (HM.out.mono HZ.out)))
  clear hown hgr hx1 hA hA1
  have q0 := exG_cell (g := g) (N := w.heap.size) (k := 0) (by decide) HGG.out
  have q1 := exG_cell (g := g) (N := w.heap.size) (k := 1) (by decide) HGG.out
  have q2 := exG_cell (g := g) (N := w.heap.size) (k := 2) (by decide) HGG.out
  have q3 := exG_cell (g := g) (N := w.heap.size) (k := 3) (by decide) HGG.out
  have q4 := exG_cell (g := g) (N := w.heap.size) (k := 4) (by decide) HGG.out
  have q5 := exG_cell (g := g) (N := w.heap.size) (k := 5) (by decide) HGG.out
  have q6 := exG_cell (g := g) (N := w.heap.size) (k := 6) (by decide) HGG.out
  have q7 := exG_cell (g := g) (N := w.heap.size) (k := 7) (by decide) HGG.out
  have q8 := exG_cell (g := g) (N := w.heap.size) (k := 8) (by decide) HGG.out
  have q9 := exG_cell (g := g) (N := w.heap.size) (k := 9) (by decide) HGG.out
  have q10 := exG_cell (g := g) (N := w.heap.size) (k := 10) (by decide) HGG.out
  have q11 := exG_cell (g := g) (N := w.heap.size) (k := 11) (by decide) HGG.out
  have q12 := exG_cell (g := g) (N := w.heap.size) (k := 12) (by decide) HGG.out
  have q13 := exG_cell (g := g) (N := w.heap.size) (k := 13) (by decide) HGG.out
  have q14 := exG_cell (g := g) (N := w.heap.size) (k := 14) (by decide) HGG.out
  have q15 := exG_cell (g := g) (N := w.heap.size) (k := 15) (by decide) HGG.out
  go_region_held3 (fun W => W.heap[w.heap.size]? = some (.cells (exG g) 24 (0, 0))) (first | assumption | exact gb_box (by assumption) hs2 (by have := HZ.out; have := (Array.getElem?_eq_some_iff.1 hs0).1; change _ < w1.heap.size at this; omega)) (first
    | (go_at_call 24; go_loud (refine (HSr.out w2 w1.heap.size n HA2.out (own_mono HO.out HZ.out) HZ.out hu2).mono ?_; rintro e w3 h; obtain ⟨a3, c3, rfl, hs3, _, hb3⟩ := h.yes; have S3 := And.intro trivial hs3; clear hs3)))
  all_goals
    have hk1 := fun (W : World) (a : Option Addr) (m c : Nat) => Lib.run_eql_slice_nil (P := Try.prog) W 25 3 a m c 0 0 Try.underlying25
    go_wp2_with fail
    go_ret2
    exact ⟨⟨a3, c3, rfl, S3.2⟩, HB1.out.trans ((HM.out.grown hb3 (Nat.le_trans HM.out.size (Nat.le_refl _)) (fun k hk => by cases hk; exact Nat.le_refl _)).mono HZ.out)⟩
end Go.Proofs.Ytmdfdjgeaemicaa
