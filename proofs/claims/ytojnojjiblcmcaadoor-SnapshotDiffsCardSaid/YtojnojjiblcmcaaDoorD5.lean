/- Package snapshot: Apply, where the changes fit. -/
import Derived.Test.YtojnojjiblcmcaaDoorD3
import Derived.Test.YtojnojjiblcmcaaDoorR4
import Derived.Test.YtojnojjiblcmcaaDoorA5
namespace Go.Proofs.YtojnojjiblcmcaaDoor
open Go.RowKit

instance : Inhabited Ch := ⟨⟨ByteArray.empty, false, false, ByteArray.empty, ByteArray.empty⟩⟩

/-- One change applied. -/
def stepC (l : List Rw) (x : Ch) : List Rw := if x.has = true then putK key1 l (x.key, x.new) else if hasK key1 l x.key = true then cutK key1 l x.key else l
theorem stepC_sorted {l : List Rw} (h : SortedK key1 l) (x : Ch) : SortedK key1 (stepC l x) := by
  unfold stepC
  split
  · exact putK_sorted h _
  · split
    · exact cutK_sorted h _
    · exact h
theorem applyC_head {l m : List Rw} {x : Ch} {r : List Ch} (h : applyC l (x :: r) = (m, 0)) :
    hasK key1 l x.key = x.had ∧ (x.had = true → valK l x.key = x.old) ∧ (x.has = true → keyB x.key = true ∧ valB x.new = true) ∧ applyC (stepC l x) r = (m, 0) := by
  rw [applyC_cons] at h
  by_cases c1 : hasK key1 l x.key ≠ x.had ∨ (hasK key1 l x.key = true ∧ valK l x.key ≠ x.old)
  · rw [if_pos c1] at h; cases (Prod.mk.inj h).2
  · rw [if_neg c1] at h
    have e1 : hasK key1 l x.key = x.had := Decidable.not_not.1 fun e => c1 (.inl e)
    have e2 : x.had = true → valK l x.key = x.old := fun e => Decidable.not_not.1 fun e' => c1 (.inr ⟨e1.trans e, e'⟩)
    by_cases c2 : x.has = true ∧ (keyB x.key && valB x.new) = false
    · rw [if_pos c2] at h; cases (Prod.mk.inj h).2
    · rw [if_neg c2] at h
      refine ⟨e1, e2, fun e3 => ?_, ?_⟩
      · have : (keyB x.key && valB x.new) = true := by
          cases hh : (keyB x.key && valB x.new) with
          | true => rfl
          | false => exact absurd ⟨e3, hh⟩ c2
        simpa using this
      · unfold stepC
        by_cases c3 : x.has = true
        · rw [if_pos c3] at h ⊢; exact h
        · rw [if_neg c3] at h ⊢
          by_cases c4 : hasK key1 l x.key = true
          · rw [if_pos c4] at h ⊢; exact h
          · rw [if_neg c4] at h ⊢; exact h

set_option maxRecDepth 100000 in
set_option maxHeartbeats 4000000 in
theorem Apply_ok (A B : Option Addr) (n p c d : Nat) (l m : List Rw) (cs : List Ch) (w : World) (ha : StAt l A n w) (hf : Fine l) (hB : Sl w w.heap.size 5 B p (fun i => [.string (cs[i]!).key, .bool (cs[i]!).had, .bool (cs[i]!).has, .string (cs[i]!).old, .string (cs[i]!).new]))
    (hp : cs.length = p) (hpn : p ≤ 256) (hap : applyC l cs = (m, 0)) (hm : m.length ≤ 64) :
    Calls Tryd.prog 20 #[.slice A n c, .slice B p d] w (StateP m 0 w) := by
  have hn := hf.len
  rw [ha.len] at hn
  have hck := Check_any A n c l w ha.sl ha.len ha.z ha.le
  unfold CheckP at hck
  rw [fine_check hf] at hck
  have HCk := Lib.hid hck
  have hcl : ∀ W, Below w.heap.size w W → Calls Tryd.prog 26 #[.slice A n c] W fun e w' => ∃ v, e = .returned v ∧ w'.ownsRow W.heap.size 39 2 v n (rws l) ∧ Below W.heap.size W w' := fun W hb => by
    have := CloneRw_any A n c (fun i => rwV l[i]!) W (ha.below hb).sl (fun _ _ => rfl) (fun i _ u hu => rwV_one _ u hu) ha.nil (by unfold maxLen; omega) (by omega)
    rw [← ha.len, ← rowsV_flat rwV_len l] at this
    rw [← ha.len]; exact this
  have HCl := Lib.hid hcl
  have HS := Lib.hid hB
  have HP := Lib.hid hp
  have HAp := Lib.hid hap
  have HM := Lib.hid hm
  have HSo := Lib.hid hf.sorted
  have HLn := Lib.hid ha.len
  clear hck hcl hB hp hap hm hf ha
  go_enter Tryd.func20, Tryd.ntmps20
  go_wp2_with (first
    | (go_at_call 16; go_loud (refine HCk.out.mono ?_; rintro e w1 ⟨rfl, hb1⟩; have HB1 := Lib.hid hb1; clear hb1))
    | (go_at_call 26; go_loud (refine (HCl.out _ HB1.out).mono ?_; rintro e w2 ⟨v2, rfl, ho2, hb2⟩; obtain ⟨A2, c2, rfl⟩ := own_shape ho2; have HO2 := Lib.hid (own_mono ho2 HB1.out.size); have HB2 := Lib.hid (HB1.out.trans (hb2.mono HB1.out.size)); clear ho2 hb2)))
  go_loopw [7, 24] (fun t7 i wr => ∃ (j : Nat) (A' : Option Addr) (n' c' : Nat) (l' : List Rw), j ≤ p ∧ i = .int .i64 (j : Int) ∧ t7 = .slice A' n' c' ∧ n' ≤ 64 + j ∧ Hid (l'.length = n') ∧ Hid (SortedK key1 l') ∧ Hid (wr.ownsRow w.heap.size 39 2 (.slice A' n' c') n' (rws l')) ∧ Hid (applyC l' (cs.drop j) = (m, 0)) ∧ Below w.heap.size w wr) (fun _ i _ => p - (intOf i).toNat)
  case atStart => exact ⟨0, A2, n, c2, l, by omega, rfl, rfl, by omega, HLn, HSo, HO2, HAp, HB2.out⟩
  case round =>
    obtain ⟨j, A', n', c', l', hj, rfl, rfl, hn', HL', HS', HO', HAp', hbr⟩ := hrel
    by_cases hlt : j < p
    · have hj0 : (0 : Int) ≤ (j : Int) := by omega
      have hjp : (j : Int) < (p : Int) := by omega
      obtain ⟨bb, ob, hBe, hbb, hrb⟩ := HS.out (by omega)
      subst hBe
      have hjl : j < cs.length := by rw [HP.out]; exact hlt
      have hdr : cs.drop j = cs[j]! :: cs.drop (j + 1) := by rw [List.drop_eq_getElem_cons hjl, getElem!_pos cs j hjl]
      have hq := hrb j hlt
      dsimp only at hq
      have hap' := HAp'.out
      rw [hdr] at hap'
      obtain ⟨x, hx⟩ : ∃ x, cs[j]! = x := ⟨_, rfl⟩
      rw [hx] at hq hap'
      obtain ⟨e1, e2, e3, e4⟩ := applyC_head hap'
      obtain ⟨k, had, has, old, new⟩ := x
      simp only at hq e1 e2 e3 e4
      have q0 : w.cell? ⟨bb, ob + j * 5, none⟩ = some (.string k) := hq 0 _ rfl
      have q1 : w.cell? ⟨bb, ob + j * 5 + 1, none⟩ = some (.bool had) := hq 1 _ rfl
      have q2 : w.cell? ⟨bb, ob + j * 5 + 2, none⟩ = some (.bool has) := hq 2 _ rfl
      have q3 : w.cell? ⟨bb, ob + j * 5 + 3, none⟩ = some (.string old) := hq 3 _ rfl
      have q4 : w.cell? ⟨bb, ob + j * 5 + 4, none⟩ = some (.string new) := hq 4 _ rfl
      have p0 := (hbr.cell (p := ⟨bb, ob + j * 5, none⟩) hbb).trans q0
      have p1 := (hbr.cell (p := ⟨bb, ob + j * 5 + 1, none⟩) hbb).trans q1
      have p2 := (hbr.cell (p := ⟨bb, ob + j * 5 + 2, none⟩) hbb).trans q2
      have p3 := (hbr.cell (p := ⟨bb, ob + j * 5 + 3, none⟩) hbb).trans q3
      have p4 := (hbr.cell (p := ⟨bb, ob + j * 5 + 4, none⟩) hbb).trans q4
      have hzr := hbr.size
      have HBr := Lib.hid hbr
      have HNew := Lib.hid (heap_alloc_new wr (.cells #[.string k, .bool had, .bool has, .string old, .string new] 49))
      have HOx := Lib.hid (HO'.out.alloc (.cells #[.string k, .bool had, .bool has, .string old, .string new] 49))
      have HBx := Lib.hid (hbr.alloc hbr.size (.cells #[.string k, .bool had, .bool has, .string old, .string new] 49))
      have HFi := Lib.hid (find_any A' n' c' l' (wr.alloc (.cells #[.string k, .bool had, .bool has, .string old, .string new] 49)) (Sl_rows rwV_len HOx.out HL'.out (by decide)) HL'.out (by omega) HS'.out k)
      have HNs := Lib.hid (stepC_sorted HS'.out ⟨k, had, has, old, new⟩)
      have H1 := Lib.hid e1
      have H4 := Lib.hid e4
      have hoo : (old.toList == old.toList) = true := by simp
      clear hdr hq hap' hx q0 q1 q2 q3 q4 hbr e4 hrb
      have hlk := lowK_le (k := key1) l' k
      rw [HL'.out] at hlk
      cases had with
      | false =>
        cases has with
        | false =>
          obtain ⟨vi, hvi⟩ : ∃ vi, lowK key1 l' k = vi := ⟨_, rfl⟩
          have HVi := Lib.hid hvi
          rw [hvi] at hlk
          have hv0 : (0 : Int) ≤ (vi : Int) := by omega
          clear hvi
          clear e1 e2
          go_wp2_with (go_at_call 27; go_loud (refine HFi.out.mono ?_; rintro e w3 ⟨he3, hb3⟩; rw [H1.out, HVi.out] at he3; subst he3; have g3 := (hb3.block _ (by simp)).trans HNew.out; have k0 := cell_of_row w3 _ 0 _ 49 (0, 0) g3; have k1 := cell_of_row w3 _ 1 _ 49 (0, 0) g3; have k2 := cell_of_row w3 _ 2 _ 49 (0, 0) g3; have k3 := cell_of_row w3 _ 3 _ 49 (0, 0) g3; have k4 := cell_of_row w3 _ 4 _ 49 (0, 0) g3; have HO3 := Lib.hid (own_below HOx.out hb3 (Nat.le_refl _)); have HB3 := Lib.hid (HBx.out.trans (hb3.mono HBx.out.size)); have HG3 := Lib.hid g3; have hz3 := HB3.out.size; clear hb3 g3))
          go_quiet (fail)
          obtain ⟨wq, hwq⟩ : ∃ wq, w3.drewN nq = wq := ⟨_, rfl⟩
          have HOq := Lib.hid (show wq.ownsRow w.heap.size 39 2 _ n' (rws l') by rw [← hwq]; exact HO3.out)
          have HBq := Lib.hid (show Below w.heap.size w wq by rw [← hwq]; exact below_drewN HB3.out _)
          have HGq := Lib.hid (show wq.heap[wr.heap.size]? = some (.cells #[.string k, .bool false, .bool false, .string old, .string new] 49 (0, 0)) by rw [← hwq]; exact HG3.out)
          have hzq := HBq.out.size
          rw [hwq]
          clear k0 k1 k2 k3 k4 hwq 
          have k0 := cell_of_row wq _ 0 _ 49 (0, 0) HGq.out
          have k2 := cell_of_row wq _ 2 _ 49 (0, 0) HGq.out
          have k4 := cell_of_row wq _ 4 _ 49 (0, 0) HGq.out
          have HSt := Lib.hid (show stepC l' ⟨k, false, false, old, new⟩ = l' by
            unfold stepC
            rw [if_neg (show ¬ false = true by decide), if_neg (show ¬ hasK key1 l' k = true by rw [H1.out]; decide)])
          go_wp2_with fail
          go_roundw
          case rel =>
            refine ⟨j + 1, A', n', c', l', by omega, ?_, rfl, by omega, HL', HS', HOq, Lib.hid (by rw [← HSt.out]; exact H4.out), HBq.out⟩
            go_num
          case measure => simp [intOf]; omega
        | true =>
          obtain ⟨vi, hvi⟩ : ∃ vi, lowK key1 l' k = vi := ⟨_, rfl⟩
          have HVi := Lib.hid hvi
          rw [hvi] at hlk
          have hv0 : (0 : Int) ≤ (vi : Int) := by omega
          clear hvi
          clear e1 e2
          go_wp2_with (go_at_call 27; go_loud (refine HFi.out.mono ?_; rintro e w3 ⟨he3, hb3⟩; rw [H1.out, HVi.out] at he3; subst he3; have g3 := (hb3.block _ (by simp)).trans HNew.out; have k0 := cell_of_row w3 _ 0 _ 49 (0, 0) g3; have k1 := cell_of_row w3 _ 1 _ 49 (0, 0) g3; have k2 := cell_of_row w3 _ 2 _ 49 (0, 0) g3; have k3 := cell_of_row w3 _ 3 _ 49 (0, 0) g3; have k4 := cell_of_row w3 _ 4 _ 49 (0, 0) g3; have HO3 := Lib.hid (own_below HOx.out hb3 (Nat.le_refl _)); have HB3 := Lib.hid (HBx.out.trans (hb3.mono HBx.out.size)); have HG3 := Lib.hid g3; have hz3 := HB3.out.size; clear hb3 g3))
          go_quiet (fail)
          obtain ⟨wq, hwq⟩ : ∃ wq, w3.drewN nq = wq := ⟨_, rfl⟩
          have HOq := Lib.hid (show wq.ownsRow w.heap.size 39 2 _ n' (rws l') by rw [← hwq]; exact HO3.out)
          have HBq := Lib.hid (show Below w.heap.size w wq by rw [← hwq]; exact below_drewN HB3.out _)
          have HGq := Lib.hid (show wq.heap[wr.heap.size]? = some (.cells #[.string k, .bool false, .bool true, .string old, .string new] 49 (0, 0)) by rw [← hwq]; exact HG3.out)
          have hzq := HBq.out.size
          rw [hwq]
          clear k0 k1 k2 k3 k4 hwq 
          have k0 := cell_of_row wq _ 0 _ 49 (0, 0) HGq.out
          have k2 := cell_of_row wq _ 2 _ 49 (0, 0) HGq.out
          have k4 := cell_of_row wq _ 4 _ 49 (0, 0) HGq.out
          obtain ⟨f1, f2⟩ := e3 (by first | exact rfl | exact trivial)
          obtain ⟨s1, s2⟩ : k.size ≤ maxLen ∧ new.size ≤ maxLen := by
            unfold keyB at f1
            unfold valB at f2
            simp only [Bool.and_eq_true, decide_eq_true_eq] at f1 f2
            unfold maxLen
            omega
          have HF1 := Lib.hid f1
          have HF2 := Lib.hid f2
          have hgz : wr.heap.size < wq.heap.size := (Array.getElem?_eq_some_iff.1 HGq.out).1
          clear f1 f2 e3
          go_wp2_with (first
            | (go_at_call 23; go_loud (refine (Key_any k _ s1).mono ?_; rintro e w4 ⟨he4, hb4⟩; rw [HF1.out] at he4; subst he4; have g4 := (hb4.block _ hgz).trans HGq.out; have k0 := cell_of_row w4 _ 0 _ 49 (0, 0) g4; have k4 := cell_of_row w4 _ 4 _ 49 (0, 0) g4; have HO4 := Lib.hid (own_below HOq.out hb4 (Nat.le_refl _)); have HB4 := Lib.hid (HBq.out.trans (hb4.mono hzq)); have HG4 := Lib.hid g4; have hz4 := HB4.out.size; have hgz4 : wr.heap.size < w4.heap.size := (Array.getElem?_eq_some_iff.1 g4).1; clear hb4 g4))
            | (go_at_call 24; go_loud (refine (isValue_any new _ s2).mono ?_; rintro e w5 ⟨he5, hb5⟩; rw [HF2.out] at he5; subst he5; have g5 := (hb5.block _ hgz4).trans HG4.out; have k0 := cell_of_row w5 _ 0 _ 49 (0, 0) g5; have k2 := cell_of_row w5 _ 2 _ 49 (0, 0) g5; have k4 := cell_of_row w5 _ 4 _ 49 (0, 0) g5; have HO5 := Lib.hid (own_below HO4.out hb5 (Nat.le_refl _)); have HB5 := Lib.hid (HB4.out.trans (hb5.mono hz4)); clear hb5 g5))
            | (go_at_call 25; go_loud (refine (set_any w.heap.size _ n' c' l' _ HO5.out HL'.out HB5.out.size HS'.out (by omega) k new).mono ?_; rintro e w6 ⟨A6, c6, rfl, ho6, hb6⟩; have hln := putK_len (k := key1) l' (k, new); rw [HL'.out] at hln; have HO6 := Lib.hid ho6; have HB6 := Lib.hid (HB5.out.trans hb6); clear ho6 hb6)))
          have HSt : Hid (stepC l' ⟨k, false, true, old, new⟩ = putK key1 l' (k, new)) := Lib.hid rfl
          go_roundw
          case rel =>
            refine ⟨j + 1, A6, _, c6, putK key1 l' (k, new), by omega, ?_, rfl, by omega, Lib.hid rfl, Lib.hid (by rw [← HSt.out]; exact HNs.out), HO6, Lib.hid (by rw [← HSt.out]; exact H4.out), HB6.out⟩
            go_num
          case measure => simp [intOf]; omega
      | true =>
        cases has with
        | false =>
          obtain ⟨hvl, hvk⟩ := hasK_at H1.out
          have hval := e2 rfl
          have hV : valK l' k = (l'[lowK key1 l' k]!).2 := by unfold valK; rw [getK_eq HS'.out, H1.out]; rfl
          obtain ⟨vi, hvi⟩ : ∃ vi, lowK key1 l' k = vi := ⟨_, rfl⟩
          rw [hvi] at hvl hV hlk
          have hvn : vi < n' := by rw [← HL'.out]; exact hvl
          obtain ⟨g', cap', hv', hbg', hlt'⟩ := HO'.out.form (by omega)
          obtain rfl : A' = some ⟨g', 0, none⟩ := (Value.slice.inj hv').1
          have hcell : wr.cell? ⟨g', vi * 2 + 1, none⟩ = some (.string old) := by
            obtain ⟨b9, o9, hA9, hb9, hr9⟩ := Sl_rows rwV_len HO'.out HL'.out (by decide) (by omega)
            have h9 := Option.some.inj hA9
            have hb9' : g' = b9 := congrArg Addr.block h9
            have ho9' : 0 = o9 := congrArg Addr.off h9
            subst hb9' ho9'
            have := hr9 vi hvn 1 _ rfl
            rw [← hval, hV]
            simpa using this
          have HCe := Lib.hid hcell
          have HVi := Lib.hid hvi
          have hv0 : (0 : Int) ≤ (vi : Int) := by omega
          have hv1 : (vi : Int) < (n' : Int) := by omega
          clear hvk hval hV hvl hv' hcell hvi
          clear e1 e2
          go_wp2_with (go_at_call 27; go_loud (refine HFi.out.mono ?_; rintro e w3 ⟨he3, hb3⟩; rw [H1.out, HVi.out] at he3; subst he3; have g3 := (hb3.block _ (by simp)).trans HNew.out; have k0 := cell_of_row w3 _ 0 _ 49 (0, 0) g3; have k1 := cell_of_row w3 _ 1 _ 49 (0, 0) g3; have k2 := cell_of_row w3 _ 2 _ 49 (0, 0) g3; have k3 := cell_of_row w3 _ 3 _ 49 (0, 0) g3; have k4 := cell_of_row w3 _ 4 _ 49 (0, 0) g3; have c8 : w3.cell? ⟨g', vi * 2 + 1, none⟩ = some (.string old) := (hb3.cell (p := ⟨g', vi * 2 + 1, none⟩) (by simp; omega)).trans ((((Below.refl wr.heap.size wr).alloc (Nat.le_refl _) _).cell (p := ⟨g', vi * 2 + 1, none⟩) hlt').trans HCe.out); have HO3 := Lib.hid (own_below HOx.out hb3 (Nat.le_refl _)); have HB3 := Lib.hid (HBx.out.trans (hb3.mono HBx.out.size)); have HG3 := Lib.hid g3; have hz3 := HB3.out.size; clear hb3 g3))
          go_quiet (fail)
          obtain ⟨wq, hwq⟩ : ∃ wq, w3.drewN nq = wq := ⟨_, rfl⟩
          have HOq := Lib.hid (show wq.ownsRow w.heap.size 39 2 _ n' (rws l') by rw [← hwq]; exact HO3.out)
          have HBq := Lib.hid (show Below w.heap.size w wq by rw [← hwq]; exact below_drewN HB3.out _)
          have HGq := Lib.hid (show wq.heap[wr.heap.size]? = some (.cells #[.string k, .bool true, .bool false, .string old, .string new] 49 (0, 0)) by rw [← hwq]; exact HG3.out)
          have hzq := HBq.out.size
          rw [hwq]
          clear k0 k1 k2 k3 k4 hwq c8
          have k0 := cell_of_row wq _ 0 _ 49 (0, 0) HGq.out
          have k2 := cell_of_row wq _ 2 _ 49 (0, 0) HGq.out
          have k4 := cell_of_row wq _ 4 _ 49 (0, 0) HGq.out
          have HCU := Lib.hid (rowsV_cut rwV_len l' vi (by rw [HL'.out]; exact hvn))
          have HSt := Lib.hid (show stepC l' ⟨k, true, false, old, new⟩ = l'.take vi ++ l'.drop (vi + 1) by
            unfold stepC
            rw [if_neg (show ¬ false = true by decide), if_pos (show hasK key1 l' k = true from H1.out)]
            unfold cutK
            rw [HVi.out])
          have HLc := Lib.hid (show (l'.take vi ++ l'.drop (vi + 1)).length = n' - 1 by rw [List.length_append, List.length_take, List.length_drop, HL'.out]; omega)
          go_wp2_with (go_at_call 28; go_loud (refine (DeleteRw_at w.heap.size g' n' c' vi (vi + 1) (vi : Int) ((vi : Int) + 1) rfl (by omega) (rws l') _ HOq.out (rowsV_one rwV_one l') (n' - 1 - vi) (n' - 1) (by omega) (by omega) (by omega)).mono ?_; rintro e w5 ⟨rfl, ho5, hg5⟩))
          rw [HCU.out] at ho5
          have HO5 := Lib.hid ho5
          have HB5 : Hid (Below w.heap.size w w5) := Lib.hid (HBq.out.grown hg5 hzq (fun k hk => by injection hk with hk; omega))
          go_roundw
          case rel =>
            refine ⟨j + 1, some ⟨g', 0, none⟩, n' - 1, c', l'.take vi ++ l'.drop (vi + 1), by omega, ?_, rfl, by omega, HLc, Lib.hid (by rw [← HSt.out]; exact HNs.out), HO5, Lib.hid (by rw [← HSt.out]; exact H4.out), HB5.out⟩
            go_num
          case measure => simp [intOf]; omega
        | true =>
          obtain ⟨hvl, hvk⟩ := hasK_at H1.out
          have hval := e2 rfl
          have hV : valK l' k = (l'[lowK key1 l' k]!).2 := by unfold valK; rw [getK_eq HS'.out, H1.out]; rfl
          obtain ⟨vi, hvi⟩ : ∃ vi, lowK key1 l' k = vi := ⟨_, rfl⟩
          rw [hvi] at hvl hV hlk
          have hvn : vi < n' := by rw [← HL'.out]; exact hvl
          obtain ⟨g', cap', hv', hbg', hlt'⟩ := HO'.out.form (by omega)
          obtain rfl : A' = some ⟨g', 0, none⟩ := (Value.slice.inj hv').1
          have hcell : wr.cell? ⟨g', vi * 2 + 1, none⟩ = some (.string old) := by
            obtain ⟨b9, o9, hA9, hb9, hr9⟩ := Sl_rows rwV_len HO'.out HL'.out (by decide) (by omega)
            have h9 := Option.some.inj hA9
            have hb9' : g' = b9 := congrArg Addr.block h9
            have ho9' : 0 = o9 := congrArg Addr.off h9
            subst hb9' ho9'
            have := hr9 vi hvn 1 _ rfl
            rw [← hval, hV]
            simpa using this
          have HCe := Lib.hid hcell
          have HVi := Lib.hid hvi
          have hv0 : (0 : Int) ≤ (vi : Int) := by omega
          have hv1 : (vi : Int) < (n' : Int) := by omega
          clear hvk hval hV hvl hv' hcell hvi
          clear e1 e2
          go_wp2_with (go_at_call 27; go_loud (refine HFi.out.mono ?_; rintro e w3 ⟨he3, hb3⟩; rw [H1.out, HVi.out] at he3; subst he3; have g3 := (hb3.block _ (by simp)).trans HNew.out; have k0 := cell_of_row w3 _ 0 _ 49 (0, 0) g3; have k1 := cell_of_row w3 _ 1 _ 49 (0, 0) g3; have k2 := cell_of_row w3 _ 2 _ 49 (0, 0) g3; have k3 := cell_of_row w3 _ 3 _ 49 (0, 0) g3; have k4 := cell_of_row w3 _ 4 _ 49 (0, 0) g3; have c8 : w3.cell? ⟨g', vi * 2 + 1, none⟩ = some (.string old) := (hb3.cell (p := ⟨g', vi * 2 + 1, none⟩) (by simp; omega)).trans ((((Below.refl wr.heap.size wr).alloc (Nat.le_refl _) _).cell (p := ⟨g', vi * 2 + 1, none⟩) hlt').trans HCe.out); have HO3 := Lib.hid (own_below HOx.out hb3 (Nat.le_refl _)); have HB3 := Lib.hid (HBx.out.trans (hb3.mono HBx.out.size)); have HG3 := Lib.hid g3; have hz3 := HB3.out.size; clear hb3 g3))
          go_quiet (fail)
          obtain ⟨wq, hwq⟩ : ∃ wq, w3.drewN nq = wq := ⟨_, rfl⟩
          have HOq := Lib.hid (show wq.ownsRow w.heap.size 39 2 _ n' (rws l') by rw [← hwq]; exact HO3.out)
          have HBq := Lib.hid (show Below w.heap.size w wq by rw [← hwq]; exact below_drewN HB3.out _)
          have HGq := Lib.hid (show wq.heap[wr.heap.size]? = some (.cells #[.string k, .bool true, .bool true, .string old, .string new] 49 (0, 0)) by rw [← hwq]; exact HG3.out)
          have hzq := HBq.out.size
          rw [hwq]
          clear k0 k1 k2 k3 k4 hwq c8
          have k0 := cell_of_row wq _ 0 _ 49 (0, 0) HGq.out
          have k2 := cell_of_row wq _ 2 _ 49 (0, 0) HGq.out
          have k4 := cell_of_row wq _ 4 _ 49 (0, 0) HGq.out
          obtain ⟨f1, f2⟩ := e3 (by first | exact rfl | exact trivial)
          obtain ⟨s1, s2⟩ : k.size ≤ maxLen ∧ new.size ≤ maxLen := by
            unfold keyB at f1
            unfold valB at f2
            simp only [Bool.and_eq_true, decide_eq_true_eq] at f1 f2
            unfold maxLen
            omega
          have HF1 := Lib.hid f1
          have HF2 := Lib.hid f2
          have hgz : wr.heap.size < wq.heap.size := (Array.getElem?_eq_some_iff.1 HGq.out).1
          clear f1 f2 e3
          go_wp2_with (first
            | (go_at_call 23; go_loud (refine (Key_any k _ s1).mono ?_; rintro e w4 ⟨he4, hb4⟩; rw [HF1.out] at he4; subst he4; have g4 := (hb4.block _ hgz).trans HGq.out; have k0 := cell_of_row w4 _ 0 _ 49 (0, 0) g4; have k4 := cell_of_row w4 _ 4 _ 49 (0, 0) g4; have HO4 := Lib.hid (own_below HOq.out hb4 (Nat.le_refl _)); have HB4 := Lib.hid (HBq.out.trans (hb4.mono hzq)); have HG4 := Lib.hid g4; have hz4 := HB4.out.size; have hgz4 : wr.heap.size < w4.heap.size := (Array.getElem?_eq_some_iff.1 g4).1; clear hb4 g4))
            | (go_at_call 24; go_loud (refine (isValue_any new _ s2).mono ?_; rintro e w5 ⟨he5, hb5⟩; rw [HF2.out] at he5; subst he5; have g5 := (hb5.block _ hgz4).trans HG4.out; have k0 := cell_of_row w5 _ 0 _ 49 (0, 0) g5; have k2 := cell_of_row w5 _ 2 _ 49 (0, 0) g5; have k4 := cell_of_row w5 _ 4 _ 49 (0, 0) g5; have HO5 := Lib.hid (own_below HO4.out hb5 (Nat.le_refl _)); have HB5 := Lib.hid (HB4.out.trans (hb5.mono hz4)); clear hb5 g5))
            | (go_at_call 25; go_loud (refine (set_any w.heap.size _ n' c' l' _ HO5.out HL'.out HB5.out.size HS'.out (by omega) k new).mono ?_; rintro e w6 ⟨A6, c6, rfl, ho6, hb6⟩; have hln := putK_len (k := key1) l' (k, new); rw [HL'.out] at hln; have HO6 := Lib.hid ho6; have HB6 := Lib.hid (HB5.out.trans hb6); clear ho6 hb6)))
          have HSt : Hid (stepC l' ⟨k, true, true, old, new⟩ = putK key1 l' (k, new)) := Lib.hid rfl
          go_roundw
          case rel =>
            refine ⟨j + 1, A6, _, c6, putK key1 l' (k, new), by omega, ?_, rfl, by omega, Lib.hid rfl, Lib.hid (by rw [← HSt.out]; exact HNs.out), HO6, Lib.hid (by rw [← HSt.out]; exact H4.out), HB6.out⟩
            go_num
          case measure => simp [intOf]; omega
    · obtain rfl : j = p := by omega
      have hap' := HAp'.out
      rw [List.drop_eq_nil_of_le (by rw [HP.out]; exact Nat.le_refl _)] at hap'
      obtain rfl : l' = m := (Prod.mk.inj (show (l', (0 : Int)) = (m, 0) from hap')).1
      have hn4 : n' ≤ 64 := by rw [← HL'.out]; exact HM.out
      have h64 : ¬ (64 : Int) < (n' : Int) := by omega
      have HBe := Lib.hid hbr
      clear hap' hbr
      go_wp2
      go_ret2
      refine ⟨A', c', ?_, ?_, HBe.out⟩
      · rw [HL'.out]; rfl
      · rw [HL'.out]; exact HO'.out
end Go.Proofs.YtojnojjiblcmcaaDoor
