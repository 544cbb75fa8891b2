/- play: calls on a pair, whatever the condition is, as long as it holds and leaves the pair as it is. -/
import Derived.Test.YthlmejkkdmfkhaaA9
import Derived.Lib.MinMax
namespace Go.Proofs.Ythlmejkkdmfkhaa
open Go.RowKit

/-- The pair in the middle of play: I is what the condition keeps in memory. -/
def PSt (B g : Nat) (I : Pr → (Nat → Prop) → World → Prop) (w0 : World) (j : Nat) (W : World) : Prop :=
  ∃ p vp vs vw T, PairAt g p vp vs vw W ∧ Wf T p ∧ T ≤ (j : Int) + 1 ∧ I p (Own g vp vs vw) W ∧ Below B w0 W
/-- What the condition leaves. -/
def Held (B g : Nat) (p : Pr) (vp vs vw : Value) (I : Pr → (Nat → Prop) → World → Prop) (W : World) (e : Ending) (W' : World) : Prop :=
  e = .returned (.bool true) ∧ PairAt g p vp vs vw W' ∧ I p (Own g vp vs vw) W' ∧ Below B W W'
def PlayPost (B g : Nat) (I : Pr → (Nat → Prop) → World → Prop) (w0 : World) (e : Ending) (W : World) : Prop := e = .returned (.bool true) ∧ PSt B g I w0 40 W

section
variable {g : Nat} {p : Pr} {vp vs vw : Value} {w : World}
theorem Drop_int (h : PairAt g p vp vs vw w) (x : Int) (hx : 0 ≤ x) (hn : p.ws.length ≤ 1000) :
    Calls Try.prog 20 #[.pointer (some ⟨g, 0, none⟩), .int .i64 x] w (Pp g (Own g vp vs vw) (p.drop x.toNat) (.returned (.int .i64 (p.hasE x.toNat))) w) := by
  have := Drop_any h x.toNat hn
  rw [Int.toNat_of_nonneg hx] at this
  exact this
theorem Repeat_int (h : PairAt g p vp vs vw w) (x : Int) (hx : 0 ≤ x) (hn : p.ws.length ≤ 1000) :
    Calls Try.prog 29 #[.pointer (some ⟨g, 0, none⟩), .int .i64 x] w (Pp g (Own g vp vs vw) (p.again x.toNat) (.returned (.int .i64 (p.againE x.toNat))) w) := by
  have := Repeat_any h x.toNat hn
  rw [Int.toNat_of_nonneg hx] at this
  exact this
theorem Deliver_int {T : Int} (h : PairAt g p vp vs vw w) (x : Int) (hx : 0 ≤ x) (hw : Wf T p) :
    Calls Try.prog 22 #[.pointer (some ⟨g, 0, none⟩), .int .i64 x] w (Pp g (Own g vp vs vw) (p.deliver x.toNat) (.returned (.int .i64 (p.deliverE x.toNat))) w) := by
  have := Deliver_any h x.toNat hw
  rw [Int.toNat_of_nonneg hx] at this
  exact this
end

theorem slice_to22 (A : Option Addr) (n c q : Nat) (hq : q ≤ c) (hc : c ≤ maxLen) (hnil : A = none → n = 0 ∧ c = 0) (W : World) : (Instr.slice 22 (.slice A n c) none (some (.int .i64 (q : Int))) none).run Try.prog W = .ok (.slice A q c) W := by
  unfold maxLen at hc
  have h0 : (0 : Int) ≤ (q : Int) := by omega
  have h1 : (q : Int) ≤ (c : Int) := by omega
  cases A with
  | none =>
    obtain ⟨rfl, rfl⟩ := hnil rfl
    obtain rfl : q = 0 := by omega
    go_simp
  | some a => go_simp

set_option maxRecDepth 100000 in
set_option maxHeartbeats 16000000 in
theorem play_any (F : FuncId) (caps : Array Value) (enters : ∀ (args : Array Value) (w : World), (callFunc F args).run Try.prog w = .ok (.enter F args) w)
    (B g : Nat) (hBg : B ≤ g) (I : Pr → (Nat → Prop) → World → Prop) (hstep : ∀ p p' O O' W W', I p O W → Ext p p' → Ch g O O' W W' → I p' O' W')
    (hcall : ∀ T p vp vs vw W, PairAt g p vp vs vw W → Wf T p → I p (Own g vp vs vw) W → Calls Try.prog F caps W (Held B g p vp vs vw I W))
    (A : Option Addr) (n c N : Nat) (f : Nat → Int) (w : World) (hA : Sl w B 1 A n (fun i => [.int .i64 (f i)])) (hn : n ≤ c) (hc : c ≤ maxLen) (hnil : A = none → n = 0 ∧ c = 0) (hN : N = min n 40)
    (hst : PSt B g I w 0 w) :
    Calls Try.prog 9 #[.pointer (some ⟨g, 0, none⟩), .slice A n c, .func (.func F) #[] caps] w (PlayPost B g I w) := by
  have hmin : min (n : Int) 40 = (N : Int) := by omega
  have hNn : N ≤ n := by omega
  have hN30 : N ≤ 40 := by omega
  have hslo := slice_to22 A n c N (by omega) hc hnil
  have HA := Lib.hid hA
  have HST := Lib.hid hstep
  have HCL := Lib.hid hcall
  have HI := Lib.hid hst
  unfold maxLen at hc
  clear hA hN hnil hstep hcall hst
  go_enter Try.func9, Try.ntmps9
  go_wp2
  go_loopw [17] (fun x wr => ∃ j : Nat, j ≤ N ∧ x = .int .i64 j ∧ PSt B g I w j wr) (fun x _ => N - (intOf x).toNat)
  case atStart => exact ⟨0, by omega, rfl, HI.out⟩
  case round =>
    obtain ⟨j, hj, rfl, p, vp, vs, vw, T, hp, hw, hT, hi, hch⟩ := hrel
    have HP := Lib.hid hp
    have HW := Lib.hid hw
    have HIN := Lib.hid hi
    have HC := Lib.hid hch
    clear hp hw hi
    by_cases hlt : j < N
    · obtain ⟨b, off, rfl, hb, hr⟩ := HA.out.one (by omega)
      have o1 : wr.cell? ⟨b, off + j, none⟩ = some (.int .i64 (f j)) := (hch.cell (p := ⟨b, off + j, none⟩) hb).trans (hr j (by omega))
      have hm := cutI_bd (n := f j) (lo := 0) (hi := 79) (by omega)
      generalize hmm : cutI (f j) 0 79 = m at *
      obtain ⟨q, rfl⟩ : ∃ q : Nat, m = q := ⟨m.toNat, by omega⟩
      have HM := Lib.hid hmm
      have hj0 : (0 : Int) ≤ (j : Int) := by omega
      have hjN : (j : Int) < (N : Int) := by omega
      have hw64 := HW.out.w64
      have hq79 : q ≤ 79 := by omega
      clear hr hmm hch hm
      go_wp2_with (first
        | (go_at_call 27; go_loud (refine (Cut_any _ _ _ _ (by omega) (by omega) (by omega)).mono ?_; rintro e w1 ⟨rfl, rfl⟩; rw [HM.out]))
        | (go_at_call 19; go_loud (refine (Wire_any HP.out (by omega)).mono ?_; rintro e w1 ⟨A1, c1, rfl, hb1⟩; have HP1 := Lib.hid (HP.out.below hb1); have HC1 := Lib.hid (HC.out.trans (hb1.mono (Nat.le_trans hBg (Nat.le_of_lt HP.out.lt)))); have HI1 := Lib.hid (HST.out p p _ _ _ _ HIN.out (Ext.refl p) (Ch.of_below (O := Own g vp vs vw) hb1 (Nat.le_of_lt HP.out.lt))); have HX : Hid (PSt B g I w (j + 1) w1) := Lib.hid ⟨p, vp, vs, vw, T, HP1.out, HW.out, by omega, HI1.out, HC1.out⟩; clear hb1))
        | (go_at_call 28; go_loud (refine (Itoa_any q _ (by omega)).mono ?_; rintro e w2 ⟨sx, rfl, hsx, rfl⟩; have hcs : (({ data := #[101] } : ByteArray) ++ sx).size ≤ 120 := (by rw [ByteArray.size_append]; have : (({ data := #[101] } : ByteArray)).size = 1 := rfl; omega); have HCS := Lib.hid hcs; clear hcs))
        | (go_at_call 26; go_loud (refine (Submit_any HP1.out _ HW.out.p64 HW.out.w64 HCS.out).mono ?_; rintro e w2 ⟨vp2, vs2, vw2, rfl, hp2, hc2⟩; have HX : Hid (PSt B g I w (j + 1) w2) := Lib.hid ⟨p.submit _, vp2, vs2, vw2, _, hp2, HW.out.submit _, by omega, HST.out p _ _ _ _ _ HI1.out (submit_ext p _) hc2, HC1.out.trans (hc2.below.mono hBg)⟩; clear hp2 hc2))
        | (go_at_call 20; go_loud (refine (Drop_int HP1.out _ (by first | omega | exact Int.emod_nonneg _ (by omega)) (by omega)).mono ?_; rintro e w2 ⟨vp2, vs2, vw2, rfl, hp2, hc2⟩; have HX : Hid (PSt B g I w (j + 1) w2) := Lib.hid ⟨p.drop _, vp2, vs2, vw2, _, hp2, HW.out.drop _, by omega, HST.out p _ _ _ _ _ HI1.out (drop_ext p _) hc2, HC1.out.trans (hc2.below.mono hBg)⟩; clear hp2 hc2))
        | (go_at_call 29; go_loud (refine (Repeat_int HP1.out _ (by first | omega | exact Int.emod_nonneg _ (by omega)) (by omega)).mono ?_; rintro e w2 ⟨vp2, vs2, vw2, rfl, hp2, hc2⟩; have HX : Hid (PSt B g I w (j + 1) w2) := Lib.hid ⟨p.again _, vp2, vs2, vw2, _, hp2, HW.out.again _, by omega, HST.out p _ _ _ _ _ HI1.out (again_ext p _) hc2, HC1.out.trans (hc2.below.mono hBg)⟩; clear hp2 hc2))
        | (go_at_call 21; go_loud (refine (Resend_any HP1.out HW.out.p64 HW.out.w64 ⟨HW.out.d0, by have := HW.out.ds; have := HW.out.sp; omega⟩).mono ?_; rintro e w2 ⟨vp2, vs2, vw2, rfl, hp2, hc2⟩; have HX : Hid (PSt B g I w (j + 1) w2) := Lib.hid ⟨p.resend, vp2, vs2, vw2, _, hp2, HW.out.resend, by omega, HST.out p _ _ _ _ _ HI1.out (resend_ext p) hc2, HC1.out.trans (hc2.below.mono hBg)⟩; clear hp2 hc2))
        | (go_at_call 25; go_loud (refine (Takeover_any HP1.out (by have := HW.out.sp; have := HW.out.p64; omega) ⟨by have := HW.out.t1; omega, by have := HW.out.tT; omega⟩).mono ?_; rintro e w2 ⟨vp2, vs2, vw2, rfl, hp2, hc2⟩; have HX : Hid (PSt B g I w (j + 1) w2) := Lib.hid ⟨p.overs, vp2, vs2, vw2, _, hp2, HW.out.overs, by omega, HST.out p _ _ _ _ _ HI1.out (overs_ext HW.out) hc2, HC1.out.trans (hc2.below.mono hBg)⟩; clear hp2 hc2))
        | (go_at_call 22; go_loud (refine (Deliver_int HP1.out _ (by first | omega | exact Int.emod_nonneg _ (by omega)) HW.out).mono ?_; rintro e w2 ⟨vp2, vs2, vw2, rfl, hp2, hc2⟩; have HX : Hid (PSt B g I w (j + 1) w2) := Lib.hid ⟨p.deliver _, vp2, vs2, vw2, _, hp2, HW.out.deliver _, by omega, HST.out p _ _ _ _ _ HI1.out (deliver_ext p _) hc2, HC1.out.trans (hc2.below.mono hBg)⟩; clear hp2 hc2))
        | (obtain ⟨p3, vp3, vs3, vw3, T3, q1, q2, q3, q4, q5⟩ := HX.out; (with_reducible refine (HCL.out T3 p3 vp3 vs3 vw3 _ q1 q2 q4).mono ?_); rintro e w3 ⟨rfl, h1, h2, h3⟩; have HY : Hid (PSt B g I w (j + 1) w3) := Lib.hid ⟨p3, vp3, vs3, vw3, T3, h1, q2, q3, h2, q5.trans h3⟩; clear q1 q2 q3 q4 q5 h1 h2 h3))
      all_goals
        go_roundw
        case rel => exact ⟨j + 1, by omega, by go_num, HY.out⟩
        case measure => simp [intOf]; omega
    · obtain rfl : N = j := by omega
      go_wp2
      go_ret
      refine ⟨rfl, p, vp, vs, vw, T, HP.out, HW.out, by omega, HIN.out, HC.out⟩
end Go.Proofs.Ythlmejkkdmfkhaa
