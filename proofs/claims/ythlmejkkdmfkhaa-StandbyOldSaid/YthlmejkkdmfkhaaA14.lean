/- The walks of StandbySettles and StandbyOld. -/
import Derived.Test.YthlmejkkdmfkhaaPl2
namespace Go.Proofs.Ythlmejkkdmfkhaa
open Go.RowKit

def wireLen (g : Nat) (W : World) : Nat := match W.cell? ⟨g, 2, none⟩ with | some (.slice _ n _) => n | _ => 0
theorem wireLen_eq {g : Nat} {p : Pr} {vp vs vw : Value} {W : World} (h : PairAt g p vp vs vw W) : wireLen g W = p.ws.length := by
  obtain ⟨A, c, rfl⟩ := own_shape h.ow
  have := h.cell 2
  unfold wireLen
  rw [this]
  rfl
theorem take0_len {p : Pr} (h0 : 0 < p.ws.length) : (p.take 0).ws.length + 1 = p.ws.length := by
  show (p.ws.eraseIdx 0).length + 1 = _
  rw [List.length_eraseIdx, if_pos h0]; omega

set_option maxRecDepth 100000 in
set_option maxHeartbeats 8000000 in
theorem Settles_any (A : Option Addr) (n c : Nat) (f : Nat → Int) (w : World) (hA : Sl w w.heap.size 1 A n (fun i => [.int .i64 (f i)])) (hn : n ≤ c) (hc : c ≤ maxLen) (hnil : A = none → n = 0 ∧ c = 0) :
    Calls Try.prog 5 #[.slice A n c] w fun e w' => e = .returned (.bool true) ∧ Below w.heap.size w w' := by
  obtain ⟨m, hm⟩ : ∃ m, m = min n 15 := ⟨_, rfl⟩
  have hmin : min (n : Int) 15 = (m : Int) := by omega
  have hslo := slice_to22 A n c m (by omega) hc hnil
  have HA := Lib.hid (hA.less (show m ≤ n by omega))
  have HN : Hid (A = none → m = 0 ∧ c = 0) := Lib.hid (fun h => by have := hnil h; omega)
  have HNC : Hid (m ≤ c ∧ c ≤ maxLen) := Lib.hid ⟨by omega, hc⟩
  clear hA hnil hn hc hm
  go_enter Try.func5, Try.ntmps5
  go_wp2_with (first
    | (go_at_call 7; go_loud (refine (New_any _).mono ?_; rintro e w1 ⟨rfl, hp1, hb1⟩; have H1 := Lib.hid (And.intro hp1 hb1); have hz1 := hp1.lt; clear hp1 hb1))
    | (go_at_call 8; go_loud (refine (fact_any _).mono ?_; rintro e w2 ⟨rfl, hb2⟩; have H2 := Lib.hid hb2; clear hb2))
    | (go_at_call 9; go_loud (refine (play_any 18 #[] enters18 w.heap.size w.heap.size (Nat.le_refl _) Any_ (any_step _) (yes18 _ _) A m c (min m 40) f w2 (HA.out.below (H1.out.2.trans (H2.out.mono (Nat.le_of_lt hz1)))) HNC.out.1 HNC.out.2 HN.out rfl ⟨pr0, .slice none 0 0, .slice none 0 0, .slice none 0 0, 1, H1.out.1.below H2.out, Wf.pr0, by omega, trivial, Below.refl _ _⟩).mono ?_; rintro e w3 ⟨rfl, p3, vp3, vs3, vw3, T3, hp3, hw3, hT3, _, hb3⟩; have H3 := Lib.hid (And.intro hp3 (And.intro (hw3.more (T' := 41) (by simpa using hT3)) ((H1.out.2.trans (H2.out.mono (Nat.le_of_lt hz1))).trans hb3))); clear hp3 hw3 hT3 hb3)))
  go_loopw [20] (fun _ wr => ∃ p vp vs vw, PairAt w.heap.size p vp vs vw wr ∧ Wf 41 p ∧ Below w.heap.size w wr) (fun _ wr => wireLen w.heap.size wr)
  case atStart => exact ⟨p3, vp3, vs3, vw3, H3.out.1, H3.out.2.1, H3.out.2.2⟩
  case round =>
    obtain ⟨p, vp, vs, vw, hp, hw, hb⟩ := hrel
    have HP := Lib.hid hp
    have HW := Lib.hid hw
    have HB := Lib.hid hb
    have hw64 := hw.w64
    clear hp hw hb
    by_cases h0 : 0 < p.ws.length
    · have hpos : decide ((0 : Int) < (p.ws.length : Int)) = true := decide_eq_true (by omega)
      have HD : Hid (p.drop 0 = p.take 0 ∧ p.hasE 0 = 0) := Lib.hid ⟨if_pos h0, if_pos h0⟩
      have HL := Lib.hid (take0_len h0)
      go_wp2_with (first
        | (go_at_call 19; go_loud (refine (Wire_any HP.out (by omega)).mono ?_; rintro e w4 ⟨A4, c4, rfl, hb4⟩; have HP4 := Lib.hid (And.intro (HP.out.below hb4) hb4); clear hb4))
        | (go_at_call 20; go_loud (refine (Drop_any HP4.out.1 0 (by omega)).mono ?_; rintro e w5 ⟨vp5, vs5, vw5, he5, hp5, hc5⟩; rw [HD.out.2] at he5; subst he5; rw [HD.out.1] at hp5; have HP5 := Lib.hid (And.intro hp5 hc5); clear hp5 hc5)))
      go_roundw
      case rel => exact ⟨_, _, _, _, HP5.out.1, HW.out.take 0, bstepB (Nat.le_refl _) HB.out (HP4.out.2.mono (by omega)) |>.trans HP5.out.2.below⟩
      case measure => rw [wireLen_eq HP5.out.1, wireLen_eq HP.out]; have := HL.out; omega
    · have hpos : decide ((0 : Int) < (p.ws.length : Int)) = false := decide_eq_false (by omega)
      have hnil : p.ws = [] := List.eq_nil_of_length_eq_zero (by omega)
      obtain ⟨hway, hpe⟩ := Way.start HW.out hnil
      have HWAY := Lib.hid (And.intro hway hpe)
      clear hway hpe hnil
      go_wp2_with (first
        | (go_at_call 19; go_loud (refine (Wire_any HP.out (by omega)).mono ?_; rintro e w4 ⟨A4, c4, rfl, hb4⟩; have HP4 := Lib.hid (And.intro (HP.out.below hb4) hb4); clear hb4))
        | (go_at_call 21; go_loud (refine (Resend_any HP4.out.1 HW.out.p64 HW.out.w64 ⟨HW.out.d0, by have := HW.out.ds; have := HW.out.sp; omega⟩).mono ?_; rintro e w5 ⟨vp5, vs5, vw5, he5, hp5, hc5⟩; rw [HWAY.out.2] at he5; subst he5; have HP5 := Lib.hid (And.intro hp5 hc5); clear hp5 hc5)))
      go_loopw [29] (fun x wr => ∃ (j : Nat) (p : Pr) (vp vs vw : Value) (e k : Nat) (A : List Msg), x = .int .i64 j ∧ PairAt w.heap.size p vp vs vw wr ∧ Wf 41 p ∧ Way j p e k A ∧ Below w.heap.size w wr) (fun x _ => 200 - (intOf x).toNat)
      case atStart => exact ⟨0, _, _, _, _, _, _, _, rfl, HP5.out.1, HW.out.resend, HWAY.out.1, (HB.out.trans (HP4.out.2.mono (by have := HB.out.size; omega))).trans HP5.out.2.below⟩
      case round =>
        obtain ⟨j, p, vp, vs, vw, e, k, A', rfl, hp, hw, hway, hb⟩ := hrel
        have HP := Lib.hid hp
        have HW := Lib.hid hw
        have HB := Lib.hid hb
        have HY := Lib.hid hway
        have hw64 := hw.w64
        have hp64 := hw.p64
        have hsp := hw.sp
        have hj := hway.cnt
        have hj0 : (0 : Int) ≤ (j : Int) := by omega
        have hj2 : (j : Int) < 200 := by omega
        have hz := HB.out.size
        clear hp hw hb hway
        by_cases h0 : 0 < p.ws.length
        · have hne : ((p.ws.length : Int) == 0) = false := beq_eq_false_iff_ne.2 (by omega)
          obtain ⟨e', k', A2, hway', hde⟩ := Way.step HW.out HY.out h0
          have HY2 := Lib.hid (And.intro hway' hde)
          clear hway' hde
          go_wp2_with (first
            | (go_at_call 19; go_loud (refine (Wire_any HP.out (by omega)).mono ?_; rintro e w4 ⟨A4, c4, rfl, hb4⟩; have HP4 := Lib.hid (And.intro (HP.out.below hb4) hb4); clear hb4))
            | (go_at_call 22; go_loud (refine (Deliver_any HP4.out.1 0 HW.out).mono ?_; rintro e w5 ⟨vp5, vs5, vw5, he5, hp5, hc5⟩; rw [HY2.out.2] at he5; subst he5; have HP5 := Lib.hid (And.intro hp5 hc5); clear hp5 hc5)))
          go_roundw
          case rel => exact ⟨j + 1, _, _, _, _, _, _, _, by go_num, HP5.out.1, HW.out.deliver 0, HY2.out.1, (HB.out.trans (HP4.out.2.mono hz)).trans HP5.out.2.below⟩
          case measure => simp [intOf]; omega
        · have hne : ((p.ws.length : Int) == 0) = true := beq_iff_eq.2 (by omega)
          have hnil : p.ws = [] := List.eq_nil_of_length_eq_zero (by omega)
          obtain ⟨f1, f2, f3⟩ := Way.fin HW.out HY.out hnil
          have HF := Lib.hid (And.intro f1 (And.intro f2 f3))
          have tok1 : True := trivial
          clear f1 f2 f3 hnil
          go_wp2_with (first
            | (go_at_call 19; have _t := tok1; go_loud (refine (Wire_any HP.out (by omega)).mono ?_; rintro e w4 ⟨A4, c4, rfl, hb4⟩; have HP4 := Lib.hid (And.intro (HP.out.below hb4) hb4); clear hb4 tok1))
            | (go_at_call 11; go_loud (refine (Primary_any HP4.out.1 (by omega)).mono ?_; rintro e w5 ⟨A5, c5, rfl, hv5, hb5⟩; have HP5 := Lib.hid (And.intro (HP4.out.1.below hb5) (And.intro hv5 hb5)); clear hv5 hb5))
            | (go_at_call 19; go_loud (refine (Wire_any HP5.out.1 (by omega)).mono ?_; rintro e w6 ⟨A6, c6, rfl, hb6⟩; have HP6 := Lib.hid (And.intro (HP5.out.1.below hb6) hb6); clear hb6))
            | (go_at_call 17; go_loud (refine (Standby_any HP6.out.1 (by omega)).mono ?_; rintro e w7 ⟨A7, c7, he7, hv7, hb7⟩; rw [HF.out.1] at he7 hv7; subst he7; have HP7 := Lib.hid (And.intro (HP6.out.1.below hb7) (And.intro hv7 hb7)); clear hv7 hb7))
            | (go_at_call 13; go_loud (refine (EqualS A7 A5 p.ps p.ps.length c7 c5 w7.heap.size w7 (strs_sl HP7.out.2.1) (((strs_sl HP5.out.2.1).below (bstep HP6.out.2 HP7.out.2.2)).more (bstep HP6.out.2 HP7.out.2.2).size) rfl (by omega)).mono ?_; rintro e w8 ⟨rfl, q8, rfl⟩))
            | (go_at_call 14; go_loud (refine (Done_any (HP7.out.1.drewN q8)).mono ?_; rintro e w9 ⟨he9, rfl⟩; rw [HF.out.2.1] at he9; subst he9))
            | (go_at_call 12; go_loud (refine (Answered_any (HP7.out.1.drewN q8)).mono ?_; rintro e w9 ⟨he9, rfl⟩; rw [HF.out.2.2] at he9; subst he9)))
          go_ret
          exact ⟨rfl, HB.out.trans ((bstep HP4.out.2 (bstep HP5.out.2.2 (bstep HP6.out.2 (below_drewN HP7.out.2.2 q8)))).mono hz)⟩

/-- A row of texts that is none of the pair's. -/
structure KRow (base : Nat) (v : Value) (l : List ByteArray) (O : Nat → Prop) (W : World) : Prop where
  own : W.ownsRow base 9 1 v l.length (strsV l)
  out : ∀ k, v.ownBlock = some k → ¬ O k
theorem KRow.step {g base : Nat} {v : Value} {l : List ByteArray} {O O' : Nat → Prop} {W W' : World} (h : KRow base v l O W) (hc : Ch g O O' W W') : KRow base v l O' W' := by
  refine ⟨⟨h.own.1, ?_⟩, fun k hk x => ?_⟩
  · rcases h.own.2 with hn | ⟨k, cap, cur, rfl, hb', hgg, rest⟩
    · exact .inl hn
    · exact .inr ⟨k, cap, cur, rfl, hb', (hc.keep k (h.own.lt k rfl).2 (h.out k rfl)).trans hgg, rest⟩
  · rcases hc.fresh k x with y | y
    · exact h.out k hk y
    · have := (h.own.lt k hk).2; omega

set_option maxRecDepth 100000 in
set_option maxHeartbeats 8000000 in
theorem Old_any (A : Option Addr) (n c : Nat) (f : Nat → Int) (w : World) (hA : Sl w w.heap.size 1 A n (fun i => [.int .i64 (f i)])) (hn : n ≤ c) (hc : c ≤ maxLen) (hnil : A = none → n = 0 ∧ c = 0) :
    Calls Try.prog 6 #[.slice A n c] w fun e w' => e = .returned (.bool true) ∧ Below w.heap.size w w' := by
  obtain ⟨m, hm⟩ : ∃ m, m = min n 20 := ⟨_, rfl⟩
  have hmin : min (n : Int) 20 = (m : Int) := by omega
  have hslo := slice_to22 A n c m (by omega) hc hnil
  have HA := Lib.hid (hA.less (show m ≤ n by omega))
  have HN : Hid (A = none → m = 0 ∧ c = 0) := Lib.hid (fun h => by have := hnil h; omega)
  have HNC : Hid (m ≤ c ∧ c ≤ maxLen) := Lib.hid ⟨by omega, hc⟩
  clear hA hnil hn hc hm
  have tok1 : True := trivial
  go_enter Try.func6, Try.ntmps6
  go_wp2_with (first
    | (go_at_call 7; go_loud (refine (New_any _).mono ?_; rintro e w1 ⟨rfl, hp1, hb1⟩; have H1 := Lib.hid (And.intro hp1 hb1); have hz1 := hp1.lt; clear hp1 hb1))
    | (go_at_call 8; go_loud (refine (fact_any _).mono ?_; rintro e w2 ⟨rfl, hb2⟩; have H2 := Lib.hid hb2; clear hb2))
    | (go_at_call 9; go_loud (refine (play_any 23 #[] enters23 w.heap.size w.heap.size (Nat.le_refl _) Any_ (any_step _) (yes23 _ _) A m c (min m 40) f w2 (HA.out.below (H1.out.2.trans (H2.out.mono (Nat.le_of_lt hz1)))) HNC.out.1 HNC.out.2 HN.out rfl ⟨pr0, .slice none 0 0, .slice none 0 0, .slice none 0 0, 1, H1.out.1.below H2.out, Wf.pr0, by omega, trivial, Below.refl _ _⟩).mono ?_; rintro e w3 ⟨rfl, p, vp, vs, vw, T3, hp3, hw3, hT3, _, hb3⟩; have HP := Lib.hid hp3; have HW : Hid (Wf 41 p) := Lib.hid (hw3.more (by simpa using hT3)); have HB := Lib.hid ((H1.out.2.trans (H2.out.mono (Nat.le_of_lt hz1))).trans hb3); clear hp3 hw3 hT3 hb3))
    | (go_at_call 24; have _t := tok1; go_loud (refine (Term_any HP.out).mono ?_; rintro e w9 ⟨rfl, rfl⟩; clear tok1)))
  have hsp := HW.out.sp
  have hp64 := HW.out.p64
  have hw64 := HW.out.w64
  have ht1 := HW.out.t1
  have htT := HW.out.tT
  have hz := HB.out.size
  by_cases hlost : (p.ss.length : Int) < p.ans
  · have HD : Hid (p.overs = p ∧ p.oversE = 21) := Lib.hid ⟨if_pos hlost, if_pos hlost⟩
    have hl : decide ((p.ss.length : Int) < p.ans) = true := by simpa using hlost
    go_wp2_with (first
      | (go_at_call 25; go_loud (refine (Takeover_any HP.out (by omega) ⟨by omega, by omega⟩).mono ?_; rintro e w4 ⟨vp4, vs4, vw4, he4, hp4, hc4⟩; rw [HD.out.2] at he4; subst he4; rw [HD.out.1] at hp4; have HP4 := Lib.hid (And.intro hp4 hc4); clear hp4 hc4))
      | (go_at_call 24; go_loud (refine (Term_any HP4.out.1).mono ?_; rintro e w9 ⟨rfl, rfl⟩))
      | (go_at_call 17; go_loud (refine (Standby_any HP4.out.1 (by omega)).mono ?_; rintro e w7 ⟨A7, c7, rfl, hv7, hb7⟩; have HP7 := Lib.hid (And.intro (HP4.out.1.below hb7) hb7); clear hv7 hb7))
      | (go_at_call 12; go_loud (refine (Answered_any HP7.out.1).mono ?_; rintro e w9 ⟨rfl, rfl⟩)))
    go_ret
    exact ⟨rfl, (HB.out.trans HP4.out.2.below).trans (HP7.out.2.mono (by have := HP4.out.2.below.size; omega))⟩
  · have HD : Hid (p.overs = p.over ∧ p.oversE = 0) := Lib.hid ⟨if_neg hlost, if_neg hlost⟩
    have HWO : Hid (Wf 42 p.over) := Lib.hid (HW.out.over (by omega))
    have HLT := Lib.hid (late_over HW.out)
    have hq64 : p.over.ps.length ≤ 64 := HWO.out.p64
    have hqt : p.over.term = p.term + 1 := rfl
    have hqa : p.over.ans = p.ans := rfl
    have HQ : Hid (p.over.ss = [] ∧ p.over.done = 0 ∧ p.over.ws.length ≤ 64) := Lib.hid ⟨rfl, rfl, HWO.out.w64⟩
    have HT := Lib.hid (And.intro hqt hqa)
    generalize p.over = p0 at *
    clear hqt hqa
    go_wp2_with (first
      | (go_at_call 25; go_loud (refine (Takeover_any HP.out (by omega) ⟨by omega, by omega⟩).mono ?_; rintro e w4 ⟨vp4, vs4, vw4, he4, hp4, hc4⟩; rw [HD.out.2] at he4; subst he4; rw [HD.out.1] at hp4; have HP4 := Lib.hid (And.intro hp4 hc4); clear hp4 hc4))
      | (go_at_call 11; go_loud (refine (Primary_any HP4.out.1 (by omega)).mono ?_; rintro e w5 ⟨A5, c5, rfl, hv5, hb5⟩; have HP5 := Lib.hid (And.intro (HP4.out.1.below hb5) (And.intro hv5 hb5)); clear hv5 hb5))
      | (go_at_call 12; go_loud (refine (Answered_any HP5.out.1).mono ?_; rintro e w9 ⟨he9, rfl⟩; rw [HT.out.2] at he9; subst he9)))
    have HK : Hid (KRow w4.heap.size (.slice A5 p0.ps.length c5) p0.ps (Own w.heap.size vp4 vs4 vw4) w5) := Lib.hid ⟨HP5.out.2.1, fun k hk x => by have := (HP5.out.2.1.lt k hk).1; have := (Own.ge HP4.out.1 x).2; omega⟩
    have HB5 : Hid (Below w.heap.size w w5) := Lib.hid ((HB.out.trans HP4.out.2.below).trans (HP5.out.2.2.mono (by have := HP4.out.2.below.size; omega)))
    go_loopw [48] (fun x wr => ∃ (j : Nat) (q : Pr) (vp vs vw : Value), j ≤ 64 ∧ x = .int .i64 j ∧ PairAt w.heap.size q vp vs vw wr ∧ Wf 42 q ∧ Late q ∧ KRow w4.heap.size (.slice A5 p0.ps.length c5) p0.ps (Own w.heap.size vp vs vw) wr ∧ Hid (q.ps = p0.ps ∧ q.ss = [] ∧ q.done = 0 ∧ q.term = p.term + 1 ∧ q.ans = p.ans) ∧ q.ws.length ≤ 64 - j ∧ Below w.heap.size w wr) (fun x _ => 64 - (intOf x).toNat)
    case atStart => exact ⟨0, p0, _, _, _, by omega, rfl, HP5.out.1, HWO.out, HLT.out, HK.out, Lib.hid ⟨rfl, HQ.out.1, HQ.out.2.1, HT.out.1, HT.out.2⟩, HQ.out.2.2, HB5.out⟩
    case round =>
      obtain ⟨j, q, vq, vt, vu, hj, rfl, hp, hw, hlate, hk, HE, hlen, hb⟩ := hrel
      have HPQ := Lib.hid hp
      have HWQ := Lib.hid hw
      have HLQ := Lib.hid hlate
      have HKQ := Lib.hid hk
      have HBQ := Lib.hid hb
      have hzq := hb.size
      have hqp := hw.p64
      have hqs := hw.sp
      clear hp hw hlate hk hb
      by_cases hlt : j < 64
      · have hj0 : (0 : Int) ≤ (j : Int) := by omega
        have hj2 : (j : Int) < 64 := by omega
        by_cases h0 : 0 < q.ws.length
        · have hpos : decide ((0 : Int) < (q.ws.length : Int)) = true := decide_eq_true (by omega)
          obtain ⟨s1, s2, s3, s4⟩ := late_step HLQ.out h0
          have HS := Lib.hid (And.intro s1 (And.intro s2 (And.intro s3 s4)))
          clear s1 s2 s3 s4
          go_wp2_with (first
            | (go_at_call 19; go_loud (refine (Wire_any HPQ.out (by omega)).mono ?_; rintro e w6 ⟨A6, c6, rfl, hb6⟩; have HP6 := Lib.hid (And.intro (HPQ.out.below hb6) hb6); clear hb6))
            | (go_at_call 22; go_loud (refine (Deliver_any HP6.out.1 0 HWQ.out).mono ?_; rintro e w7 ⟨vp7, vs7, vw7, he7, hp7, hc7⟩; rw [HS.out.2.1] at he7; subst he7; rw [HS.out.1] at hp7; have HP7 := Lib.hid (And.intro hp7 hc7); clear hp7 hc7)))
          go_roundw
          case rel => exact ⟨j + 1, _, _, _, _, by omega, by go_num, HP7.out.1, HWQ.out.take 0, HS.out.2.2.1, (HKQ.out.step (Ch.of_below HP6.out.2 hzq)).step HP7.out.2, HE, by have := HS.out.2.2.2; omega, (HBQ.out.trans (HP6.out.2.mono hzq)).trans HP7.out.2.below⟩
          case measure => simp [intOf]; omega
        · have hpos : decide ((0 : Int) < (q.ws.length : Int)) = false := decide_eq_false (by omega)
          go_wp2_with (go_at_call 19; go_loud (refine (Wire_any HPQ.out (by omega)).mono ?_; rintro e w6 ⟨A6, c6, rfl, hb6⟩; have HP6 := Lib.hid (And.intro (HPQ.out.below hb6) hb6); clear hb6))
          go_roundw
          case rel => exact ⟨j + 1, _, _, _, _, by omega, by go_num, HP6.out.1, HWQ.out, HLQ.out, HKQ.out.step (Ch.of_below HP6.out.2 hzq), HE, by omega, HBQ.out.trans (HP6.out.2.mono hzq)⟩
          case measure => simp [intOf]; omega
      · obtain rfl : j = 64 := by omega
        have hw0 : q.ws.length = 0 := by omega
        have hne : ((q.ws.length : Int) == 0) = true := beq_iff_eq.2 (by omega)
        have HW0 := Lib.hid hw0
        have htw : IntKind.i64.wrap (p.term + 1) = p.term + 1 := IntWalk.i64_in _ (by omega)
        clear hw0 hlen
        go_wp2_with (first
          | (go_at_call 24; go_loud (refine (Term_any HPQ.out).mono ?_; rintro e w6 ⟨he6, rfl⟩; rw [HE.out.2.2.2.1] at he6; subst he6))
          | (go_at_call 19; go_loud (refine (Wire_any HPQ.out (by have := HW0.out; omega)).mono ?_; rintro e w6 ⟨A6, c6, rfl, hb6⟩; have HP6 := Lib.hid (And.intro (HPQ.out.below hb6) hb6); clear hb6))
          | (go_at_call 17; go_loud (refine (Standby_any HP6.out.1 (by omega)).mono ?_; rintro e w7 ⟨A7, c7, he7, hv7, hb7⟩; rw [HE.out.2.1] at he7; have he7 : e = .returned (.slice A7 0 c7) := he7; subst he7; have HP7 := Lib.hid (And.intro (HP6.out.1.below hb7) hb7); clear hv7 hb7))
          | (go_at_call 14; go_loud (refine (Done_any HP7.out.1).mono ?_; rintro e w9 ⟨he9, rfl⟩; rw [HE.out.2.2.1] at he9; subst he9))
          | (go_at_call 12; go_loud (refine (Answered_any HP7.out.1).mono ?_; rintro e w9 ⟨he9, rfl⟩; rw [HE.out.2.2.2.2] at he9; subst he9))
          | (go_at_call 11; go_loud (refine (Primary_any HP7.out.1 (by omega)).mono ?_; rintro e w8 ⟨A8, c8, he8, hv8, hb8⟩; rw [HE.out.1] at he8 hv8; subst he8; have HP8 := Lib.hid (And.intro hv8 hb8); clear hv8 hb8))
          | (go_at_call 13; go_loud (refine (EqualS A8 A5 p0.ps p0.ps.length c8 c5 w8.heap.size w8 (strs_sl HP8.out.1) (((strs_sl HKQ.out.own).below (bstep HP6.out.2 (bstep HP7.out.2 HP8.out.2))).more (bstep HP6.out.2 (bstep HP7.out.2 HP8.out.2)).size) rfl (by omega)).mono ?_; rintro e w9 ⟨rfl, q9, rfl⟩)))
        go_ret
        exact ⟨rfl, HBQ.out.trans ((bstep HP6.out.2 (bstep HP7.out.2 (below_drewN HP8.out.2 q9))).mono hzq)⟩
end Go.Proofs.Ythlmejkkdmfkhaa
