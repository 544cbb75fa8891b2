/- The walk of ApproachPromised. -/
import Derived.Test.YtmdfdjgeaemicaaE3
import Derived.Test.YtmdfdjgeaemicaaE4
import Derived.Test.YtmdfdjgeaemicaaE5
import Derived.Test.YtmdfdjgeaemicaaE6
import Derived.Test.YtmdfdjgeaemicaaA4
import Derived.Test.YtmdfdjgeaemicaaOA
import Derived.Test.YtmdfdjgeaemicaaFlat
import Derived.Lib.MinMax
namespace Go.Proofs.Ytmdfdjgeaemicaa
open Go.RowKit Go.Lib

theorem it_info : (Try.prog.info? 32).map (fun i => (i.zero, i.size, i.bytes)) = some (some (.agg #[.string ByteArray.empty, .int .i64 0, .int .i64 0, .int .i64 0]), 4, 40) := by kernel_rfl
theorem bnextW {w a b : World} (h : Below w.heap.size w a) (h' : Below a.heap.size a b) : Below w.heap.size w b := h.trans (h'.mono h.size)

set_option maxRecDepth 100000 in
set_option maxHeartbeats 3000000 in
theorem Prom_bad (A : Option Addr) (n c q : Nat) (its : Nat → It) (G : Array Value) (g : Nat → Int) (w : World) (hA : Sl w w.heap.size 4 A n (fun i => (its i).row)) (hn : n ≤ c) (hc : c ≤ maxLen) (hq : q = min n 6) (hG : Gaps G g) (hc0 : checkCode q its g ≠ 0) :
    Calls Try.prog 6 #[.slice A n c, .agg G] w fun e w' => e = .returned (.bool true) ∧ Below w.heap.size w w' := by
  have _h := And.intro hn hc
  clear _h
  have HS := Lib.hid hG.1
  have HGG := Lib.hid hG
  have hb0 : Below w.heap.size w (w.alloc (.cells G 24)) := (Below.refl _ _).alloc (Nat.le_refl _) _
  have hqn : q ≤ n := by omega
  have hq6 : q ≤ 6 := by omega
  have hA1 := ((hA.less hqn).below hb0).more hb0.size
  have hmin : min (n : Int) 6 = (q : Int) := by omega
  have hq0 : (0 : Int) ≤ (q : Int) := by omega
  have hqc : (q : Int) ≤ (c : Int) := by omega
  have hx0 : (w.alloc (.cells G 24)).heap[w.heap.size]? = some (.cells G 24 (0, 0)) := heap_alloc_new w _
  have HO := Lib.hid (Order_bad A q c its G g _ hA1 (by unfold maxLen; omega) hG hc0)
  have hne : (checkCode q its g == 0) = false := beq_eq_false_iff_ne.2 hc0
  have hne1 : (checkCode q its g != 0) = true := by rw [bne_iff_ne]; exact hc0
  clear hc0
  clear hq hA hG hn
  go_enter Try.func6, Try.ntmps6
  go_wp2_with (first
    | (first | (refine wpList_load_row rfl 24 _ rfl w.heap.size rfl 24 G (0, 0) _ (by assumption) Try.underlying24 rfl (by rw [HS.out]; kernel_rfl) ?_) | (refine wpList_load_row_w 24 _ rfl w.heap.size rfl rfl 24 G (0, 0) _ (by assumption) Try.underlying24 rfl (by rw [HS.out]; kernel_rfl) ?_))
    | (go_at_call 9; go_loud (refine (fact_any _).mono ?_; rintro e w4 ⟨rfl, hb4⟩))
    | (go_at_call 16; go_loud (refine HO.out.mono ?_; rintro e w1 ⟨rfl, hb1⟩))
    )
  go_ret
  exact ⟨rfl, bnextW (bnextW hb0 hb1) hb4⟩

set_option maxRecDepth 100000 in
set_option maxHeartbeats 3000000 in
theorem Prom_none (A : Option Addr) (n c q : Nat) (its : Nat → It) (G : Array Value) (g : Nat → Int)  (w : World) (hA : Sl w w.heap.size 4 A n (fun i => (its i).row)) (hn : n ≤ c) (hc : c ≤ maxLen) (hq : q = min n 6) (hG : Gaps G g) (hc0 : checkCode q its g = 0) (hp : 0 < q) (ho : srch g its q q [] [] (List.replicate q false) = none) :
    Calls Try.prog 6 #[.slice A n c, .agg G] w fun e w' => e = .returned (.bool true) ∧ Below w.heap.size w w' := by
  have _h := And.intro hn hc
  clear _h
  have HS := Lib.hid hG.1
  have HGG := Lib.hid hG
  have hb0 : Below w.heap.size w (w.alloc (.cells G 24)) := (Below.refl _ _).alloc (Nat.le_refl _) _
  have hqn : q ≤ n := by omega
  have hq6 : q ≤ 6 := by omega
  have hA1 := ((hA.less hqn).below hb0).more hb0.size
  have hmin : min (n : Int) 6 = (q : Int) := by omega
  have hq0 : (0 : Int) ≤ (q : Int) := by omega
  have hqc : (q : Int) ≤ (c : Int) := by omega
  have hx0 : (w.alloc (.cells G 24)).heap[w.heap.size]? = some (.cells G 24 (0, 0)) := heap_alloc_new w _
  have HO := Lib.hid (Order_none A q c its G g _ hA1 hq6 hp hG hc0 ho)
  clear hc0 ho
  clear hq hA hG hn
  go_enter Try.func6, Try.ntmps6
  go_wp2_with (first
    | (first | (refine wpList_load_row rfl 24 _ rfl w.heap.size rfl 24 G (0, 0) _ (by assumption) Try.underlying24 rfl (by rw [HS.out]; kernel_rfl) ?_) | (refine wpList_load_row_w 24 _ rfl w.heap.size rfl rfl 24 G (0, 0) _ (by assumption) Try.underlying24 rfl (by rw [HS.out]; kernel_rfl) ?_))
    | (go_at_call 9; go_loud (refine (fact_any _).mono ?_; rintro e w4 ⟨rfl, hb4⟩))
    | (go_at_call 16; go_loud (refine HO.out.mono ?_; rintro e w1 ⟨rfl, hb1⟩))
    )
  go_ret
  exact ⟨rfl, bnextW (bnextW hb0 hb1) hb4⟩

set_option maxRecDepth 100000 in
set_option maxHeartbeats 3000000 in
theorem Prom_zero (A : Option Addr) (n c q : Nat) (its : Nat → It) (G : Array Value) (g : Nat → Int)  (w : World) (hA : Sl w w.heap.size 4 A n (fun i => (its i).row)) (hn : n ≤ c) (hc : c ≤ maxLen) (hq : q = min n 6) (hG : Gaps G g) (hc0 : checkCode q its g = 0) (hp : q = 0) :
    Calls Try.prog 6 #[.slice A n c, .agg G] w fun e w' => e = .returned (.bool true) ∧ Below w.heap.size w w' := by
  have _h := And.intro hn hc
  clear _h
  have HS := Lib.hid hG.1
  have HGG := Lib.hid hG
  have hb0 : Below w.heap.size w (w.alloc (.cells G 24)) := (Below.refl _ _).alloc (Nat.le_refl _) _
  have hqn : q ≤ n := by omega
  have hq6 : q ≤ 6 := by omega
  have hA1 := ((hA.less hqn).below hb0).more hb0.size
  have hmin : min (n : Int) 6 = (q : Int) := by omega
  have hq0 : (0 : Int) ≤ (q : Int) := by omega
  have hqc : (q : Int) ≤ (c : Int) := by omega
  have hx0 : (w.alloc (.cells G 24)).heap[w.heap.size]? = some (.cells G 24 (0, 0)) := heap_alloc_new w _
  subst hp
  have HO := Lib.hid (Order_zero A c its G g (w.alloc (.cells G 24)) hG hc0)
  have HL := Lib.hid (fun (W : World) => Late_ok none 0 0 its G g W Sl.none_ (by decide) HGG.out hc0 (fun i hi => by omega))
  have HV := Lib.hid (fun (W : World) => over_any A 0 c its W (fun h => absurd h (by omega)) (by omega))
  clear hc0 hA1
  clear hq hA hG hn
  go_enter Try.func6, Try.ntmps6
  go_wp2_with (first
    | (first | (refine wpList_load_row rfl 24 _ rfl w.heap.size rfl 24 G (0, 0) _ (by assumption) Try.underlying24 rfl (by rw [HS.out]; kernel_rfl) ?_) | (refine wpList_load_row_w 24 _ rfl w.heap.size rfl rfl 24 G (0, 0) _ (by assumption) Try.underlying24 rfl (by rw [HS.out]; kernel_rfl) ?_))
    | (go_at_call 9; go_loud (refine (fact_any _).mono ?_; rintro e w4 ⟨rfl, hb4⟩))
    | (go_at_call 16; go_loud (refine HO.out.mono ?_; rintro e w1 ⟨rfl, hb1⟩; have hx1 := (hb1.block w.heap.size (by simp)).trans hx0))
    )
  go_loopw [7, 33] (fun x k wr => x = .slice none 0 0 ∧ k = .int .i64 0 ∧ wr = w1) (fun _ _ _ => 0)
  case atStart => exact ⟨rfl, rfl, rfl⟩
  case round =>
    obtain ⟨rfl, rfl, rfl⟩ := hrel
    go_wp2_with (first
      | (first | (refine wpList_load_row rfl 24 _ rfl w.heap.size rfl 24 G (0, 0) _ (by assumption) Try.underlying24 rfl (by rw [HS.out]; kernel_rfl) ?_) | (refine wpList_load_row_w 24 _ rfl w.heap.size rfl rfl 24 G (0, 0) _ (by assumption) Try.underlying24 rfl (by rw [HS.out]; kernel_rfl) ?_))
      | (go_at_call 17; go_loud (refine (HL.out _).mono ?_; rintro e w2 ⟨rfl, hb2⟩))
      | (go_at_call 9; go_loud (refine (fact_any _).mono ?_; rintro e w4 ⟨rfl, hb4⟩))
      | (go_at_call 18; go_loud (refine (HV.out _).mono ?_; rintro e w3 ⟨rfl, hb3⟩)))
    go_ret
    exact ⟨rfl, bnextW (bnextW (bnextW (bnextW hb0 hb1) hb2) hb4) hb3⟩

set_option maxRecDepth 100000 in
set_option maxHeartbeats 3000000 in
theorem Prom_some (A : Option Addr) (n c q : Nat) (its : Nat → It) (G : Array Value) (g : Nat → Int) (o : List Nat) (w : World) (hA : Sl w w.heap.size 4 A n (fun i => (its i).row)) (hn : n ≤ c) (hc : c ≤ maxLen) (hq : q = min n 6) (hG : Gaps G g) (hc0 : checkCode q its g = 0) (hp : 0 < q) (ho : srch g its q q [] [] (List.replicate q false) = some o) :
    Calls Try.prog 6 #[.slice A n c, .agg G] w fun e w' => e = .returned (.bool true) ∧ Below w.heap.size w w' := by
  have _h := And.intro hn hc
  clear _h
  have HS := Lib.hid hG.1
  have HGG := Lib.hid hG
  have hb0 : Below w.heap.size w (w.alloc (.cells G 24)) := (Below.refl _ _).alloc (Nat.le_refl _) _
  have hqn : q ≤ n := by omega
  have hq6 : q ≤ 6 := by omega
  have hA1 := ((hA.less hqn).below hb0).more hb0.size
  have hmin : min (n : Int) 6 = (q : Int) := by omega
  have hq0 : (0 : Int) ≤ (q : Int) := by omega
  have hqc : (q : Int) ≤ (c : Int) := by omega
  have hx0 : (w.alloc (.cells G 24)).heap[w.heap.size]? = some (.cells G 24 (0, 0)) := heap_alloc_new w _
  have HO := Lib.hid (Order_some A q c its G g o _ hA1 hq6 hp hG hc0 ho)
  obtain ⟨hol, hob, hot, hrs⟩ := found ho
  have hoc := order_code hc0 hob
  have HL := Lib.hid (fun (X : Option Addr) (cx : Nat) (W : World) h => Late_ok X q cx (inOrder its o) G g W h (by unfold maxLen; omega) HGG.out hoc hot)
  have HV := Lib.hid (fun (W : World) h => over_any A q c its W h (by omega))
  have HN : Hid (((List.range q).map its).any overB = false) := Lib.hid (by
    rw [List.any_eq_false]
    intro x hx
    obtain ⟨i, hi, rfl⟩ := List.mem_map.1 hx
    have := hrs i (List.mem_range.1 hi)
    unfold overB
    simp; omega)
  rw [HN.out] at HV
  obtain ⟨i0, J0, J1, J2, J3⟩ := info_parts it_info
  have HOB := Lib.hid hob
  obtain ⟨ba, oa, rfl, hba, hra⟩ := hA1 (by omega)
  have HA1 := Lib.hid hA1
  have HRa := Lib.hid hra
  clear hc0 ho hob hot hrs hoc hA1 hra HN
  clear hq hA hG hn
  go_enter Try.func6, Try.ntmps6
  go_wp2_with (first
    | (first | (refine wpList_load_row rfl 24 _ rfl w.heap.size rfl 24 G (0, 0) _ (by assumption) Try.underlying24 rfl (by rw [HS.out]; kernel_rfl) ?_) | (refine wpList_load_row_w 24 _ rfl w.heap.size rfl rfl 24 G (0, 0) _ (by assumption) Try.underlying24 rfl (by rw [HS.out]; kernel_rfl) ?_))
    | (go_at_call 9; go_loud (refine (fact_any _).mono ?_; rintro e w4 ⟨rfl, hb4⟩))
    | (go_at_call 16; go_loud (refine HO.out.mono ?_; rintro e w1 ⟨⟨a1, c1, rfl, hs1⟩, hb1⟩; have hx1 := (hb1.block w.heap.size (by simp)).trans hx0))
    )
  rw [hol] at hs1
  obtain ⟨b1, o1, he1, hbb1, hr1⟩ := hs1 (by omega)
  obtain rfl := Option.some.inj he1
  have HR1 := Lib.hid hr1
  have HB1 := Lib.hid hb1
  have HBW := Lib.hid (bnextW hb0 hb1)
  clear hs1 hr1 he1 hb1
  go_loopw [7, 33] (fun x k wr => ∃ (j cx : Nat) (X : Option Addr), j ≤ q ∧ x = .slice X j cx ∧ k = .int .i64 (j : Int) ∧ Hid (wr.ownsRow w1.heap.size 32 4 (.slice X j cx) j (flatR (fun i => (inOrder its o i).row) j)) ∧ Hid (Below w1.heap.size w1 wr)) (fun _ k _ => q - (intOf k).toNat)
  case atStart => exact ⟨0, 0, none, by omega, rfl, rfl, World.ownsRow_nil _ _ _ _, Below.refl _ _⟩
  case round =>
    obtain ⟨j, cx, X, hj, rfl, rfl, HOw, HBr⟩ := hrel
    by_cases hlt : j < q
    · have hbr := HBW.out.trans (HBr.out.mono HBW.out.size)
      have hbr0 := HB1.out.trans (HBr.out.mono HB1.out.size)
      have hok := HOB.out j hlt
      obtain ⟨m, hm⟩ : ∃ m, o[j]! = m := ⟨_, rfl⟩
      have HM := Lib.hid hm
      rw [hm] at hok
      have hj0 : (0 : Int) ≤ (j : Int) := by omega
      have hjq : (j : Int) < (q : Int) := by omega
      have hm0 : (0 : Int) ≤ (m : Int) := by omega
      have hmq : (m : Int) < (q : Int) := by omega
      have hm1 : decide ((m : Int) < 0) = false := decide_eq_false (by omega)
      have hm2 : decide ((m : Int) ≥ (q : Int)) = false := decide_eq_false (by omega)
      have hwr : IntKind.i64.wrap ((j : Int) + 1) = (j : Int) + 1 := IntWalk.i64_in _ (by omega)
      have k1 : wr.cell? ⟨b1, o1 + j, none⟩ = some (.int .i64 (m : Int)) := (HBr.out.cell (p := ⟨b1, o1 + j, none⟩) hbb1).trans (by have h := HR1.out j hlt 0 _ rfl; rw [hm] at h; simpa using h)
      have hr := HRa.out m hok
      have c0 : wr.cell? ⟨ba, oa + m * 4, none⟩ = some (.string (its m).nm) := (hbr0.cell (p := ⟨ba, oa + m * 4, none⟩) hba).trans (hr 0 _ rfl)
      have c1 : wr.cell? ⟨ba, oa + m * 4 + 1, none⟩ = some (.int .i64 (its m).wk) := (hbr0.cell (p := ⟨ba, oa + m * 4 + 1, none⟩) hba).trans (hr 1 _ rfl)
      have c2 : wr.cell? ⟨ba, oa + m * 4 + 2, none⟩ = some (.int .i64 (its m).rd) := (hbr0.cell (p := ⟨ba, oa + m * 4 + 2, none⟩) hba).trans (hr 2 _ rfl)
      have c3 : wr.cell? ⟨ba, oa + m * 4 + 3, none⟩ = some (.int .i64 (its m).sl) := (hbr0.cell (p := ⟨ba, oa + m * 4 + 3, none⟩) hba).trans (hr 3 _ rfl)
      have hzr := HBr.out.size
      clear hr hm hbr hbr0
      go_wp2_with (at_builtin; go_loud (refine wpList_append_one wr #[.string (its m).nm, .int .i64 (its m).wk, .int .i64 (its m).rd, .int .i64 (its m).sl] rfl (.tmp 45) (.tmp 50) 22 rfl w1.heap.size 32 i0 (.agg #[.string ByteArray.empty, .int .i64 0, .int .i64 0, .int .i64 0]) 4 40 Try.underlying22 J0 J1 J2 J3 rfl (by decide) (.slice X j cx) j _ rfl HOw.out rfl rfl (by simp [Value.oneCell']) (by omega) (by decide) hzr ?_); intro g6 cap6 w6 hv6 hg6 hat6 hlt6)
      go_roundw
      case rel => exact ⟨j + 1, cap6, _, by omega, rfl, by go_num, by
        have h := hv6
        have e : flatR (fun i => (inOrder its o i).row) (j + 1) = flatR (fun i => (inOrder its o i).row) j ++ [.string (its m).nm, .int .i64 (its m).wk, .int .i64 (its m).rd, .int .i64 (its m).sl] := by
          rw [flatR_succ]; show _ ++ (its o[j]!).row = _; rw [HM.out]; rfl
        rw [e]; exact h, below_app HBr.out hzr HOw.out (Nat.le_refl _) hg6⟩
      case measure => simp [intOf]; omega
    · obtain rfl : j = q := by omega
      have HW := Lib.hid (HBW.out.trans (HBr.out.mono HBW.out.size))
      have hxr : wr.heap[w.heap.size]? = some (.cells G 24 (0, 0)) := (HBr.out.block _ (Array.getElem?_eq_some_iff.1 hx1).1).trans hx1
      have HXl := Lib.hid (Sl_flat (row := fun i => (inOrder its o i).row) (k := 4) (fun _ _ => rfl) HOw.out)
      have HAl := Lib.hid ((HA1.out.below (HB1.out.trans (HBr.out.mono HB1.out.size))).more (HB1.out.trans (HBr.out.mono HB1.out.size)).size)
      clear hx1 hx0
      go_wp2_with (first
        | (first | (refine wpList_load_row rfl 24 _ rfl w.heap.size rfl 24 G (0, 0) _ (by assumption) Try.underlying24 rfl (by rw [HS.out]; kernel_rfl) ?_) | (refine wpList_load_row_w 24 _ rfl w.heap.size rfl rfl 24 G (0, 0) _ (by assumption) Try.underlying24 rfl (by rw [HS.out]; kernel_rfl) ?_))
        | (go_at_call 17; go_loud (refine (HL.out _ _ _ HXl.out).mono ?_; rintro e w2 ⟨rfl, hb2⟩))
        | (go_at_call 9; go_loud (refine (fact_any _).mono ?_; rintro e w4 ⟨rfl, hb4⟩))
        | (go_at_call 18; go_loud (refine (HV.out _ ((HAl.out.below (bnextW hb2 hb4)).more (bnextW hb2 hb4).size)).mono ?_; rintro e w3 ⟨rfl, hb3⟩)))
      go_ret
      exact ⟨rfl, bnextW (bnextW (bnextW HW.out hb2) hb4) hb3⟩
end Go.Proofs.Ytmdfdjgeaemicaa
