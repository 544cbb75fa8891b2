/- dLog: the log of those entries that can be applied. -/
import Derived.Test.YtjmdebeffpdpcaaGreatDoorC2
namespace Go.Proofs.YtjmdebeffpdpcaaGreatDoor
open Go.RowKit
open Go.Lib hiding intOf

/-- What an entry does hangs on its kind and its text alone. -/
theorem st_same {l : List Rw} {x y : Ent} (hx : chk x = 0) (hy : chk y = 0) (hk : x.kind = y.kind) (ht : x.text = y.text) : stC l x = stC l y ∧ stR l x = stR l y := by
  unfold stC stR
  rw [hk, ht, hx, hy]
  exact ⟨rfl, rfl⟩

theorem addC_chk {l : List Ent} {t : Int} {k x : ByteArray} (h : addC l t k x = 0) : chk (newE l t k x) = 0 := by
  unfold addC at h
  by_cases h0 : chk (newE l t k x) = 0
  · exact h0
  · rw [if_pos h0] at h; exact absurd h h0

/-- The entries L lead from nothing to the state S. -/
def RunOk (L : List Ent) (S : List Rw) : Prop := runG [] none 0 L = (S, 0, 0)
theorem RunOk.nil : RunOk [] [] := rfl

theorem RunOk.snoc {L : List Ent} {S : List Rw} (h : RunOk L S) (hL : LogOk L) {e : Ent} (hn : e.num = (L.length : Int) + 1) (hc : stC S e = 0) : RunOk (L ++ [e]) (stR S e) := by
  unfold RunOk at h ⊢
  rw [runG_split, h]
  simp only
  rw [if_neg (by decide), runG_cons]
  have hp : ¬ (match L.getLast? with | some x => some x.num | none => none).any (fun q => decide (e.num ≠ q + 1)) = true := by
    rw [List.getLast?_eq_getElem?]
    cases hg : L[L.length - 1]? with
    | none => simp
    | some x =>
      have hlt := (List.getElem?_eq_some_iff.1 hg).1
      have := (hL.1 _ x hg).1
      simp only [Option.any_some, decide_eq_true_eq, ne_eq]
      omega
  refine (if_neg hp).trans ?_
  rw [if_neg (by simpa using hc), runG_nil]

theorem checkL_nil : checkL [] = 0 := by decide
theorem runF_nil (es : List Ent) (h : es.length ≤ 500) : runF [] es = runG [] none 0 es := by
  unfold runF
  rw [if_neg (by simpa using checkL_nil), if_neg (by omega)]

theorem RunOk.pre {L : List Ent} {S : List Rw} (h : RunOk L S) {l t : List Ent} (e : L = l ++ t) : (runG [] none 0 l).2.2 = 0 := by
  unfold RunOk at h
  rw [e, runG_split] at h
  by_cases h0 : (runG [] none 0 l).2.2 = 0
  · exact h0
  · rw [if_pos h0] at h
    rw [h] at h0
    exact absurd rfl h0

theorem entsF_take (L : List Ent) : ∀ k o, o + k ≤ L.length → entsF (gL L) o k = (L.drop o).take k
  | 0, _, _ => by simp [entsF]
  | k + 1, o, h => by
    rw [entsF, entsF_take L k (o + 1) (by omega), List.drop_eq_getElem_cons (show o < L.length by omega), List.take_succ_cons]
    congr 1
    unfold gL
    rw [List.getElem?_eq_getElem (by omega)]
    rfl

theorem cut_prefix {L l : List Ent} {rest : L8} {p : Nat} (hL : LogOk L) (hl : LogOk l) (h : (encs L).take p = encs l ++ rest) : ∃ t, L = l ++ t := by
  have e : encs L ++ [] = encs l ++ (rest ++ (encs L).drop p) := by
    rw [List.append_nil, ← List.append_assoc, ← h, List.take_append_drop]
  have hs : Stop L [] := fun e r' ho hr => by
    have := encL_len ho
    have h2 := congrArg List.length hr
    rw [List.length_append, List.length_nil] at h2
    omega
  obtain ⟨t, e, _⟩ := recov_pre hL hl hs e
  exact ⟨t, e⟩

/-- What the recovered entries lead to, all at once or in two parts. -/
theorem replays {L l t : List Ent} {S : List Rw} (h : RunOk L S) (hl : LogOk l) (e : L = l ++ t) (h14 : l.length ≤ 14) (k : Nat) (hk : k ≤ l.length) :
    (runF [] (entsF (gL l) 0 k)).2.2 = 0 ∧ (runF [] (entsF (gL l) 0 l.length)).2.2 = 0 ∧
    (runF [] (entsF (gL l) 0 l.length)).1 = (runF (runF [] (entsF (gL l) 0 k)).1 (entsF (gL l) k (l.length - k))).1 ∧
    (runF (runF [] (entsF (gL l) 0 k)).1 (entsF (gL l) k (l.length - k))).2.2 = 0 := by
  have key : ∀ m, m ≤ l.length → (runF [] (entsF (gL l) 0 m)).2.2 = 0 := fun m hm => by
    rw [entsF_take l m 0 (by omega), List.drop_zero, runF_nil _ (by rw [List.length_take]; omega)]
    exact h.pre (l := l.take m) (t := l.drop m ++ t) (by rw [← List.append_assoc, List.take_append_drop, e])
  obtain ⟨h1, h2⟩ := (partsL hl k hk h14).2 (key k hk)
  exact ⟨key k hk, key _ (Nat.le_refl _), h1, h2 ▸ key _ (Nat.le_refl _)⟩
end Go.Proofs.YtjmdebeffpdpcaaGreatDoor

namespace Go.Proofs.YtjmdebeffpdpcaaGreatDoor
open Go.RowKit
open Go.Lib hiding intOf

theorem dd_small {u : Nat} (h : u < 10) : decDigits u = [UInt8.ofNat (48 + u)] := by
  rw [decDigits, dif_pos h]
def X0 : Ent := ⟨1, 0, ⟨#[115, 101, 116]⟩, ⟨#[97, 32, 98]⟩⟩
def r0 : List Rw := [(⟨#[97]⟩, ⟨#[98]⟩)]
theorem put0 : putK key1 [] (⟨#[97]⟩, ⟨#[98]⟩) = r0 := rfl
theorem set0 : setC [] ⟨#[97]⟩ ⟨#[98]⟩ = 0 := by
  unfold setC
  rw [checkL_nil, put0]
  decide
theorem step0 : stC [] X0 = 0 ∧ stR [] X0 = r0 := by
  have h2 : chk X0 = 0 := by decide
  have h3 : cutT X0.text = ([97], [98], true) := by decide
  have h5 : X0.kind = kSet := rfl
  constructor
  · unfold stC
    rw [checkL_nil, if_neg (by decide), h2, if_neg (by decide), if_pos h5, h3]
    exact set0
  · unfold stR
    rw [checkL_nil, if_neg (by decide), h2, if_neg (by decide), if_pos h5, h3]
    show setR [] ⟨#[97]⟩ ⟨#[98]⟩ = r0
    unfold setR
    rw [set0, put0]
    rfl
theorem long0 : 14 < (encL E0).length := by
  have henc : encL E0 = preL E0 ++ 59 :: (decDigits (sumL (preL E0)) ++ [10]) := by unfold encL; rw [full_pre]
  have h1 : decDigits E0.num.toNat = [49] := dd_small (by decide)
  have h2 : decDigits E0.time.toNat = [53] := dd_small (by decide)
  have h3 : decDigits (bl E0.text).length = [51] := dd_small (by decide)
  have hp : preL E0 = [49] ++ 32 :: ([53] ++ 32 :: (bl E0.kind ++ 32 :: ([51] ++ 58 :: bl E0.text))) := by unfold preL; rw [h1, h2, h3]
  have h4 : (preL E0).length = 13 := by rw [hp]; rfl
  rw [henc, List.length_append, h4, List.length_cons, List.length_append, List.length_singleton]
  omega

set_option maxRecDepth 100000 in
set_option maxHeartbeats 2000000 in
theorem dRec_any (w : World) (he : Env w) : Calls Tryz.prog 5 #[] w fun x w' => x = .returned (.bool true) ∧ Below w.heap.size w w' := by
  obtain ⟨L, hL⟩ : ∃ L, encL E0 = L := ⟨_, rfl⟩
  have hl := long0
  have hl2 := (encL_len E0_ok).2
  have HEn := Lib.hid (Encode_ok E0 w E0_ok he)
  have hsz := size_mk (encL E0)
  obtain ⟨S, hS⟩ : ∃ S, mk (encL E0) = S := ⟨_, rfl⟩
  rw [hS] at HEn hsz
  rw [← hsz] at hl hl2
  unfold valE E0 at HEn
  simp only at HEn
  have HSt := Lib.hid (fun W (hW : Env W) => Step_any none 0 0 [] X0 W (StAt.none_ W) ⟨by decide, by decide, by decide, by decide⟩ hW)
  rw [step0.1, step0.2] at HSt
  unfold valE X0 at HSt
  simp only at HSt
  have HE := Lib.hid he
  have d1 : decide ((14 : Int) < (S.size : Int)) = true := by simp; omega
  clear he hL hS hsz hl hl2
  go_enter Tryz.func5, Tryz.ntmps5
  go_wp2_with (first
    | (go_at_call 19; go_loud (refine HEn.out.mono ?_; rintro e w1 ⟨rfl, hb1⟩))
    | (go_at_call 17; go_loud (refine (HSt.out _ (HE.out.below hb1)).mono ?_; rintro e w2 ⟨A1, c1, rfl, ho1, hb2⟩; obtain ⟨g1, cap1, hv1, _, hlt1⟩ := ho1.form (by decide); have hA1 : A1 = some ⟨g1, 0, none⟩ := (by injection hv1); subst hA1; have q0 := ho1.cellAt 0 (by decide); have q1 := ho1.cellAt 1 (by decide); simp only [r0, rws, rowsV, List.flatMap_cons, List.flatMap_nil, rwV, List.append_nil] at q0 q1; clear hv1)))
  go_ret
  exact ⟨rfl, bstep hb1 hb2⟩
end Go.Proofs.YtjmdebeffpdpcaaGreatDoor

namespace Go.Proofs.YtjmdebeffpdpcaaGreatDoor
open Go.RowKit
open Go.Lib hiding intOf

/-- A state's row is no part of the log. -/
def Away (g : Nat) (A B : Option Addr) (n : Nat) : Prop := 0 < n → ∀ b, B = some b → b.block ≠ g ∧ ∀ a, A = some a → a.block ≠ b.block
theorem Away.nil (g : Nat) (A B : Option Addr) : Away g A B 0 := fun h => absurd h (by omega)
theorem StAt.off {l : List Rw} {B A : Option Addr} {n g : Nat} {w w' : World} (h : StAt l B n w) (ho : OffLog g A w w') (hs : w.heap.size ≤ w'.heap.size) (ha : Away g A B n) : StAt l B n w' := by
  refine ⟨fun hn => ?_, h.len, h.z, h.le, h.nil⟩
  obtain ⟨b, off, e, hb, hr⟩ := h.sl hn
  obtain ⟨h1, h2⟩ := ha hn _ e
  exact ⟨b, off, e, by omega, fun i hi j v hv => (World.cell?_of_block (w := w) (ho b hb h1 h2)).trans (hr i hi j v hv)⟩
/-- What Step made lies behind the log. -/
theorem Away.made {g c cA : Nat} {A B : Option Addr} {L : List Ent} {l : List Rw} {w w1 : World} (h : LogA g A cA L w) (ho : w1.ownsRow w.heap.size 54 2 (.slice B l.length c) l.length (rws l)) : Away g A B l.length := fun hn b hb => by
  obtain ⟨b', cap, hv, hge, _⟩ := ho.form hn
  have hB : B = some ⟨b', 0, none⟩ := by injection hv
  rw [hb] at hB
  obtain rfl : b = ⟨b', 0, none⟩ := by injection hB
  have := h.lt
  refine ⟨by show b' ≠ g; omega, fun a ha => ?_⟩
  have h2 := h.2.lt a.block (by rw [ha]; rfl)
  show a.block ≠ b'
  omega
/-- The log's row behind an Add is the old one or new. -/
theorem Away.more {g n : Nat} {A A' B : Option Addr} {l : List Rw} {w : World} (h : Away g A B n) (hs : StAt l B n w) (hA : ∀ a, A' = some a → (∃ a0, A = some a0 ∧ a0.block = a.block) ∨ w.heap.size ≤ a.block) : Away g A' B n := fun hn b hb => by
  obtain ⟨h1, h2⟩ := h hn b hb
  refine ⟨h1, fun a ha => ?_⟩
  rcases hA a ha with ⟨a0, e0, e1⟩ | h3
  · rw [← e1]; exact h2 a0 e0
  · obtain ⟨b', off, e, hlt, _⟩ := hs.sl hn
    rw [hb] at e
    obtain rfl : b = ⟨b', off, none⟩ := by injection e
    show a.block ≠ b'
    omega

/-- What dLog leaves: a sound log that can be applied. -/
def LogRunP (w : World) (y : Ending) (w' : World) : Prop := ∃ L S, y = .returned (.pointer (some ⟨w.heap.size, 0, none⟩)) ∧ LogAt w.heap.size L w' ∧ LogOk L ∧ RunOk L S ∧ L.length ≤ 14 ∧ Below w.heap.size w w'

set_option maxRecDepth 100000 in
set_option maxHeartbeats 4000000 in
theorem dLog_any (A : Option Addr) (n c N : Nat) (f : Nat → Ent) (w : World) (hA : Sl w w.heap.size 4 A n (fun i => rowE (f i))) (hf : ∀ i, i < n → Wf (f i)) (hc : n ≤ c) (hcm : c ≤ maxLen) (hnil : A = none → n = 0 ∧ c = 0) (hN : N = min n 14) (he : Env w) :
    Calls Tryz.prog 4 #[.slice A n c] w (LogRunP w) := by
  unfold maxLen at hcm
  have HA := Lib.hid hA
  have HF := Lib.hid hf
  have HE := Lib.hid he
  have hNn : N ≤ n := by omega
  have hN14 : N ≤ 14 := by omega
  have hsl := fun W => slice34 (A := A) (c := c) n N hNn hc hnil W
  have hmin : min (n : Int) 14 = (N : Int) := by omega
  clear hA hf hN hnil he
  go_enter Tryz.func4, Tryz.ntmps4
  go_wp2_with (go_at_call 16; refine (New_any _).mono ?_; rintro e w1 ⟨rfl, hL1, hb1⟩)
  obtain ⟨A1, cA1, hL1⟩ := hL1
  have HL1 := Lib.hid hL1
  have HB1 := Lib.hid hb1
  clear hL1 hb1
  go_loopw [4, 5, 6, 7, 8, 9, 10, 20] (fun t4 _ _ _ _ _ _ i wr => ∃ (j : Nat) (L : List Ent) (S : List Rw) (B : Option Addr) (cB : Nat) (A : Option Addr) (cA : Nat), j ≤ N ∧ i = .int .i64 (j : Int) ∧ t4 = .slice B S.length cB ∧ LogA w.heap.size A cA L wr ∧ LogOk L ∧ RunOk L S ∧ L.length ≤ j ∧ StAt S B S.length wr ∧ Away w.heap.size A B S.length ∧ Below w.heap.size w wr) (fun _ _ _ _ _ _ _ i _ => N - (intOf i).toNat)
  case atStart => exact ⟨0, [], [], none, 0, A1, cA1, by omega, rfl, rfl, HL1.out, LogOk.nil, RunOk.nil, by simp, StAt.none_ _, Away.nil _ _ _, HB1.out⟩
  case round =>
    obtain ⟨j, L, S, B, cB, AL, cL, hj, rfl, rfl, hLa, hLo, hRu, hLl, hSt, hAw, hbr⟩ := hrel
    have HLa := Lib.hid hLa
    have HLo := Lib.hid hLo
    have HRu := Lib.hid hRu
    have HSt := Lib.hid hSt
    have HAw := Lib.hid hAw
    have HBr := Lib.hid hbr
    clear hLa hLo hRu hSt hAw
    by_cases hlt : j < N
    · obtain ⟨b, off, rfl, hb, q0, q1, q2, q3⟩ := HA.out.four j (by omega)
      have hwf := HF.out j (by omega)
      obtain ⟨x, hx⟩ : ∃ x, f j = x := ⟨_, rfl⟩
      rw [hx] at q0 q1 q2 q3 hwf
      obtain ⟨xn, xt, xk, xx⟩ := x
      simp only at q0 q1 q2 q3
      have o0 := (hbr.cell (p := ⟨b, off + j * 4, none⟩) hb).trans q0
      have o1 := (hbr.cell (p := ⟨b, off + j * 4 + 1, none⟩) hb).trans q1
      have o2 := (hbr.cell (p := ⟨b, off + j * 4 + 2, none⟩) hb).trans q2
      have o3 := (hbr.cell (p := ⟨b, off + j * 4 + 3, none⟩) hb).trans q3
      have hj0 : (0 : Int) ≤ (j : Int) := by omega
      have hjN : (j : Int) < (N : Int) := by omega
      clear hbr q0 q1 q2 q3
      have hw1 : Wf ⟨(j : Int) + 1, (j : Int), xk, xx⟩ := ⟨⟨by show (-9223372036854775808 : Int) ≤ (j : Int) + 1; omega, by show (j : Int) + 1 ≤ 9223372036854775807; omega⟩, ⟨by show (-9223372036854775808 : Int) ≤ (j : Int); omega, by show (j : Int) ≤ 9223372036854775807; omega⟩, hwf.2.2.1, hwf.2.2.2⟩
      have hw2 : Wf (newE L (j : Int) xk xx) := ⟨⟨by show (-9223372036854775808 : Int) ≤ (L.length : Int) + 1; omega, by show (L.length : Int) + 1 ≤ 9223372036854775807; omega⟩, ⟨by show (-9223372036854775808 : Int) ≤ (j : Int); omega, by show (j : Int) ≤ 9223372036854775807; omega⟩, hwf.2.2.1, hwf.2.2.2⟩
      have hbn : Below wr.heap.size wr (wr.alloc (.cells #[.int .i64 ((j : Int) + 1), .int .i64 (j : Int), .string xk, .string xx] 48)) := (Below.refl _ _).alloc (Nat.le_refl _) _
      have hnew := heap_alloc_new wr (.cells #[.int .i64 ((j : Int) + 1), .int .i64 (j : Int), .string xk, .string xx] 48)
      have hltn : wr.heap.size < (wr.alloc (.cells #[.int .i64 ((j : Int) + 1), .int .i64 (j : Int), .string xk, .string xx] 48)).heap.size := (Array.getElem?_eq_some_iff.1 hnew).1
      have HBn := Lib.hid hbn
      have HNew := Lib.hid hnew
      have HLtn := Lib.hid hltn
      have HLW := Lib.hid (HLa.out.below hbn)
      have HStep := Lib.hid (Step_any B S.length cB S ⟨(j : Int) + 1, (j : Int), xk, xx⟩ _ (HSt.out.below hbn) hw1 (HE.out.below (HBr.out.trans (hbn.mono HBr.out.size))))
      have HAdd := Lib.hid (fun (W : World) (hW : Below wr.heap.size wr W) (hc : addC L (j : Int) xk xx = 0) => Add_ok (HLa.out.below hW) (j : Int) xk xx hw2 hc (by omega))
      have HAn := Lib.hid (fun (W : World) (hW : Below wr.heap.size wr W) (hc : addC L (j : Int) xk xx ≠ 0) => Add_no (HLa.out.below hW) (j : Int) xk xx hw2 hc (by omega))
      unfold valE at HStep
      simp only at HStep
      obtain ⟨SC, hSC⟩ : ∃ SC, stC S ⟨(j : Int) + 1, (j : Int), xk, xx⟩ = SC := ⟨_, rfl⟩
      obtain ⟨SR, hSR⟩ : ∃ SR, stR S ⟨(j : Int) + 1, (j : Int), xk, xx⟩ = SR := ⟨_, rfl⟩
      obtain ⟨AC, hAC⟩ : ∃ AC, addC L (j : Int) xk xx = AC := ⟨_, rfl⟩
      rw [hSC, hSR] at HStep
      rw [hAC] at HAdd HAn
      by_cases h0 : SC = 0
      · subst h0
        by_cases h1 : AC = 0
        · subst h1
          have hck := addC_chk hAC
          have hsame := st_same (l := S) (x := newE L (j : Int) xk xx) (y := ⟨(j : Int) + 1, (j : Int), xk, xx⟩) hck (st_ok hSC) rfl rfl
          have HRu2 := Lib.hid (HRu.out.snoc HLo.out (e := newE L (j : Int) xk xx) rfl (by rw [hsame.1]; exact hSC))
          rw [hsame.2, hSR] at HRu2
          have HLo2 := Lib.hid (addC_ok hAC HLo.out)
          have HFi := Lib.hid (show Fine SR by rw [← hSR]; exact st_fine hSC)
          have HAd := Lib.hid (fun W hW => HAdd.out W hW rfl)
          clear hw1 hw2 hbn hnew hltn hck hsame hx hwf hSC hSR hAC HAdd HAn hsl
          go_wp2_with fail
          refine HStep.out.mono ?_
          rintro e w2 ⟨B2, c2, rfl, ho2, hb2⟩
          have B2b := HBn.out.trans (hb2.mono HBn.out.size)
          have hn2 := (hb2.block _ HLtn.out).trans HNew.out
          have k1 := cell_of_row _ _ 1 _ _ _ hn2
          have k2 := cell_of_row _ _ 2 _ _ _ hn2
          have k3 := cell_of_row _ _ 3 _ _ _ hn2
          have HB2 := Lib.hid B2b
          have HSt2 := Lib.hid (StAt.of_own HFi.out ho2)
          have HAw2 := Lib.hid (Away.made HLW.out ho2)
          clear hb2 hn2 ho2 B2b
          go_wp2_with fail
          refine (HAd.out _ HB2.out).mono ?_
          rintro e w3 ⟨A3, c3, rfl, hL3, hb3, hof3, hA3⟩
          have HL3 := Lib.hid hL3
          have HS3 := Lib.hid (StAt.off HSt2.out hof3 hb3.size HAw2.out)
          have HAw3 := Lib.hid (Away.more HAw2.out HSt2.out hA3)
          have HB3 := Lib.hid ((HBr.out.trans (HB2.out.mono HBr.out.size)).trans hb3)
          clear hL3 hb3 hof3 hA3 k1 k2 k3
          go_wp2
          go_roundw
          case rel => exact ⟨j + 1, _, SR, B2, c2, A3, c3, by omega, by go_num, rfl, HL3.out, HLo2.out, HRu2.out, by rw [List.length_append, List.length_singleton]; omega, HS3.out, HAw3.out, HB3.out⟩
          case measure => simp [intOf]; omega
        · have d1 : (AC == 0) = false := by simpa using h1
          have HAd := Lib.hid (fun W hW => HAn.out W hW h1)
          clear hw1 hw2 hbn hnew hltn hx hwf hSC hSR hAC HAdd HAn hsl h1
          go_wp2_with fail
          refine HStep.out.mono ?_
          rintro e w2 ⟨B2, c2, rfl, ho2, hb2⟩
          have B2b := HBn.out.trans (hb2.mono HBn.out.size)
          have hn2 := (hb2.block _ HLtn.out).trans HNew.out
          have k1 := cell_of_row _ _ 1 _ _ _ hn2
          have k2 := cell_of_row _ _ 2 _ _ _ hn2
          have k3 := cell_of_row _ _ 3 _ _ _ hn2
          have HB2 := Lib.hid B2b
          clear hb2 hn2 ho2 B2b
          go_wp2_with fail
          refine (HAd.out _ HB2.out).mono ?_
          rintro e w3 ⟨rfl, hb3⟩
          have HB3 := Lib.hid (HB2.out.trans (hb3.mono HB2.out.size))
          clear hb3 k1 k2 k3
          go_wp2
          go_roundw
          case rel => exact ⟨j + 1, L, S, B, cB, AL, cL, by omega, by go_num, rfl, HLa.out.below HB3.out, HLo.out, HRu.out, by omega, HSt.out.below HB3.out, HAw.out, HBr.out.trans (HB3.out.mono HBr.out.size)⟩
          case measure => simp [intOf]; omega
      · have d0 : (SC == 0) = false := by simpa using h0
        clear hw1 hw2 hbn hnew hltn hx hwf hSC hSR hAC HAdd HAn hsl h0
        go_wp2_with fail
        refine HStep.out.mono ?_
        rintro e w2 ⟨B2, c2, rfl, ho2, hb2⟩
        have HB3 := Lib.hid (HBn.out.trans (hb2.mono HBn.out.size))
        clear ho2 hb2
        go_wp2
        go_roundw
        case rel => exact ⟨j + 1, L, S, B, cB, AL, cL, by omega, by go_num, rfl, HLa.out.below HB3.out, HLo.out, HRu.out, by omega, HSt.out.below HB3.out, HAw.out, HBr.out.trans (HB3.out.mono HBr.out.size)⟩
        case measure => simp [intOf]; omega
    · obtain rfl : N = j := by omega
      go_wp2
      go_ret
      exact ⟨L, S, rfl, ⟨_, _, HLa.out⟩, HLo.out, HRu.out, by omega, HBr.out⟩
end Go.Proofs.YtjmdebeffpdpcaaGreatDoor
