/- The stack of the laws. -/
import Derived.Test.YtjiofgfdfljgmaaA9
namespace Go.Proofs.Ytjiofgfdfljgmaa
open Go.RowKit

theorem str_info : (Try.prog.info? 9).map (fun i => (i.zero, i.size, i.bytes)) = some (some (.string ByteArray.empty), 1, 16) := by kernel_rfl
def sF0 : ByteArray := { data := #[70] } ++ { data := #[48] }
theorem nameF0 : nameB sF0 = true := by decide

def StackPost (w : World) (N : Nat) (f : Nat → Int) (e : Ending) (w' : World) : Prop := ∃ (g : Nat) (now : Int) (v : Value) (ls : List Lv) (ins outs : List ByteArray) (vi vo : Value),
  e = .returned (.tuple #[.pointer (some ⟨g, 0, none⟩), vi, vo]) ∧ St w g N now v ls ins outs vi vo w' ∧ (N = 1 → cutI (f 0) 0 7 < 6 → ls = [(sF0, 3000, 0)])

theorem slice_to32 (A : Option Addr) (n c q : Nat) (hq : q ≤ c) (hc : c ≤ maxLen) (hnil : A = none → n = 0 ∧ c = 0) (W : World) : (Instr.slice 32 (.slice A n c) none (some (.int .i64 (q : Int))) none).run Try.prog W = .ok (.slice A q c) W := by
  unfold maxLen at hc
  have h0 : (0 : Int) ≤ (q : Int) := by omega
  have h1 : (q : Int) ≤ (c : Int) := by omega
  cases A with
  | none =>
    obtain ⟨rfl, rfl⟩ := hnil rfl
    obtain rfl : q = 0 := by omega
    go_simp
  | some a => go_simp

theorem wrong_ok' {now : Int} {t : Nat} (h1 : now ≤ t) (h2 : t ≤ 200) : wrongB now (t : Int) = false := by
  unfold wrongB; simp; omega

set_option maxRecDepth 100000 in
set_option maxHeartbeats 16000000 in
theorem stack_any (A : Option Addr) (n c N : Nat) (f : Nat → Int) (w : World) (hA : Sl w w.heap.size 1 A n (fun i => [.int .i64 (f i)])) (hn : n ≤ c) (hc : c ≤ maxLen) (hnil : A = none → n = 0 ∧ c = 0) (hN : N = min n 30) :
    Calls Try.prog 11 #[.slice A n c] w (StackPost w N f) := by
  have hmin : min (n : Int) 30 = (N : Int) := by omega
  have hNn : N ≤ n := by omega
  have hN30 : N ≤ 30 := by omega
  have hslo := slice_to32 A n c N (by omega) hc hnil
  have HA := Lib.hid hA
  unfold maxLen at hc
  obtain ⟨i0, J0, J1, J2, J3⟩ := info_parts str_info
  clear hA hN hnil
  go_enter Try.func11, Try.ntmps11
  go_wp2_with (go_at_call 8; go_loud (refine (New_ok 3000 7000 1000 _ (by decide) (by decide) (by decide) (by decide) (by decide) (by decide)).mono ?_; rintro e w1 ⟨g, hg, rfl, hS, hb1⟩; have HS0 := Lib.hid hS; clear hS))
  go_loopw [7, 8, 34] (fun vi vo x wr => ∃ (j : Nat) (now : Int) (v : Value) (ls : List Lv) (ins outs : List ByteArray), j ≤ N ∧ x = .int .i64 j ∧ St w g j now v ls ins outs vi vo wr ∧ Hid (j = 0 → ls = [] ∧ now = 0) ∧ Hid (j = 1 → cutI (f 0) 0 7 < 6 → ls = [(sF0, 3000, 0)])) (fun _ _ x _ => N - (intOf x).toNat)
  case atStart =>
    exact ⟨0, 0, .slice none 0 0, [], [], [], by omega, rfl, ⟨HS0.out, World.ownsRow_nil _ _ _ _, World.ownsRow_nil _ _ _ _, apart_nil, apart_nil, apart_nil, Good.nil 0, by omega, by omega, rfl, Nat.le_refl _, Nat.le_refl _, hb1, hg⟩, Lib.hid fun _ => ⟨rfl, rfl⟩, Lib.hid fun h => by omega⟩
  case round =>
    obtain ⟨j, now, v, ls, ins, outs, hj, rfl, hst, HZ, HONE⟩ := hrel
    by_cases hlt : j < N
    · obtain ⟨b, off, rfl, hb, hr⟩ := HA.out.one (by omega)
      have o1 : wr.cell? ⟨b, off + j, none⟩ = some (.int .i64 (f j)) := (hst.bel.cell (p := ⟨b, off + j, none⟩) hb).trans (hr j (by omega))
      have hm := cutI_bd (n := f j) (lo := 0) (hi := 7) (by omega)
      have HF0 : Hid (j = 0 → cutI (f 0) 0 7 = cutI (f j) 0 7) := Lib.hid fun h => by rw [h]
      generalize hmm : cutI (f j) 0 7 = m at *
      have HM := Lib.hid hmm
      have hj0 : (0 : Int) ≤ (j : Int) := by omega
      have hjN : (j : Int) < (N : Int) := by omega
      have htop := hst.good.top
      have hlen := hst.good.len
      have hnow := hst.n1
      have hnow0 := hst.n0
      obtain ⟨VI, ci, rfl⟩ := own_shape hst.oi
      obtain ⟨VO, co, rfl⟩ := own_shape hst.oo
      have HS := Lib.hid hst
      clear hr hmm hst
      by_cases hm6 : m < 6
      · by_cases hj1 : j = 0
        · have hz := HZ.out hj1
          obtain ⟨hls, hnw⟩ := hz
          have e0 : entB now 7000 3000 1000 (j : Int) ls sF0 = true := by
            unfold entB
            rw [nameF0, hls, idxL_nil, wrong_ok' hnow (by omega)]
            decide
          have E0 := Lib.hid e0
          have HJ1 := Lib.hid hj1
          have HLS := Lib.hid hls
          have hjz : (j : Int) = 0 := by omega
          have HJZ := Lib.hid hjz
          have h7 : topH 3000 1000 ls ≤ 7000 := by rw [hls]; decide
          have IT : ∀ W : World, Calls Try.prog 21 #[.int .i64 (j : Int)] W fun e w' => e = .returned (.string { data := #[48] }) ∧ W = w' := fun W => by rw [hjz]; exact Itoa_zero W
          have HIT := Lib.hid IT
          have hsz : sF0.size ≤ maxLen := by decide
          clear hj1 hls hnw e0 hjz IT
          go_wp2_with (first
            | (go_at_call 7; refine (Cut_any _ _ _ _ (by omega) (by omega) (by omega)).mono ?_; rintro e w1 ⟨rfl, rfl⟩; rw [HM.out])
            | (go_at_call 21; go_loud (refine (HIT.out _).mono ?_; rintro e w1 ⟨rfl, rfl⟩))
            | (go_at_call 9; go_loud (refine (Enter_ok HS.out.stk sF0 (j : Int) (by exact hsz) (by omega) (by omega) (by omega) E0.out).mono ?_; rintro e w2 ⟨v2, rfl, hS2, hu2⟩; have HSt2 := Lib.hid hS2; have HOI2 := Lib.hid (own_upd HS.out.oi hu2 HS.out.a2); clear hS2))
            | (at_builtin; go_loud (refine wpList_append_oneN w2 w2.heap.size rfl #[.string sF0] rfl (.tmp 80) (.tmp 82) 33 rfl (g + 1) 9 i0 (.string ByteArray.empty) 1 16 Try.underlying33 J0 J1 J2 J3 rfl (by decide) (.slice VI ins.length ci) ins.length (strsV ins) rfl HOI2.out rfl rfl (by simp [Value.oneCell']) (by have := HS.out.li; omega) (by decide) (by have := HSt2.out.lt; omega) ?_); intro g3 cap3 w3 hv3 hg3 hat3 hlt3))
          go_roundw
          case rel => exact ⟨j + 1, _, _, _, _, _, by omega, by go_num, HS.out.enter sF0 hu2 HSt2.out h7 hv3 hg3 hat3, Lib.hid fun h => by omega, Lib.hid fun h _ => by rw [HLS.out, HJZ.out]; rfl⟩
          case measure => simp [intOf]; omega
        · have hjp : 1 ≤ j := by omega
          have IT : ∀ W : World, Calls Try.prog 21 #[.int .i64 (j : Int)] W (SomeStr W) := fun W => Itoa_pos j W hjp (by omega)
          have HIT := Lib.hid IT
          clear IT hj1
          go_wp2_with (first
            | (go_at_call 7; refine (Cut_any _ _ _ _ (by omega) (by omega) (by omega)).mono ?_; rintro e w1 ⟨rfl, rfl⟩; rw [HM.out])
            | (go_at_call 21; go_loud (refine (HIT.out _).mono ?_; rintro e w1 ⟨sx, rfl, hsx, rfl⟩)))
          have hcs : (({ data := #[70] } : ByteArray) ++ sx).size ≤ maxLen := by
            rw [ByteArray.size_append]
            have : (({ data := #[70] } : ByteArray)).size = 1 := rfl
            unfold maxLen; omega
          generalize (({ data := #[70] } : ByteArray) ++ sx) = cs at *
          cases hE : entB now 7000 3000 1000 (j : Int) ls cs with
          | true =>
            have h7 : topH 3000 1000 ls ≤ 7000 := by
              unfold entB at hE
              simp only [Bool.and_eq_true, decide_eq_true_eq] at hE
              exact hE.2
            refine (Enter_ok HS.out.stk cs (j : Int) hcs (by omega) (by omega) (by omega) hE).mono ?_
            rintro e w2 ⟨v2, rfl, hS2, hu2⟩
            have HSt2 := Lib.hid hS2
            have HOI2 := Lib.hid (own_upd HS.out.oi hu2 HS.out.a2)
            clear hS2 hE
            go_wp2_with (at_builtin; go_loud (refine wpList_append_oneN w2 w2.heap.size rfl #[.string cs] rfl (.tmp 80) (.tmp 82) 33 rfl (g + 1) 9 i0 (.string ByteArray.empty) 1 16 Try.underlying33 J0 J1 J2 J3 rfl (by decide) (.slice VI ins.length ci) ins.length (strsV ins) rfl HOI2.out rfl rfl (by simp [Value.oneCell']) (by have := HS.out.li; omega) (by decide) (by have := HSt2.out.lt; omega) ?_); intro g3 cap3 w3 hv3 hg3 hat3 hlt3)
            go_roundw
            case rel => exact ⟨j + 1, _, _, _, _, _, by omega, by go_num, HS.out.enter cs hu2 HSt2.out h7 hv3 hg3 hat3, Lib.hid fun h => by omega, Lib.hid fun h _ => by omega⟩
            case measure => simp [intOf]; omega
          | false =>
            refine (Enter_no HS.out.stk cs (j : Int) hcs (by omega) (by omega) (by omega) hE).mono ?_
            rintro e w2 ⟨c0, hc0, rfl, hb2⟩
            have hc0' : (c0 == 0) = false := by simp [hc0]
            clear hc0 hE
            go_wp2
            go_roundw
            case rel => exact ⟨j + 1, _, _, _, _, _, by omega, by go_num, (HS.out.below hb2).more, Lib.hid fun h => by omega, Lib.hid fun h _ => by omega⟩
            case measure => simp [intOf]; omega
      · by_cases hm66 : m = 6
        · subst hm66
          have hb6 : ∀ i, i < ls.length → -1000000 ≤ (at_ ls i).2.1 ∧ (at_ ls i).2.1 ≤ 1000000 := fun i hi => by
            have h := HS.out.good.lo i hi
            unfold hOf at h
            omega
          have HB6 := Lib.hid hb6
          have h06 : j = 0 → ¬ cutI (f 0) 0 7 < 6 := fun h => by rw [HF0.out h]; omega
          have H06 := Lib.hid h06
          clear hb6 h06
          go_wp2_with (first
            | (go_at_call 7; refine (Cut_any _ _ _ _ (by omega) (by omega) (by omega)).mono ?_; rintro e w1 ⟨rfl, rfl⟩; rw [HM.out])
            | (go_at_call 13; go_loud (refine (Down_ok HS.out.stk (j : Int) (by omega) (wrong_ok' (by omega) (by omega)) (by omega) HB6.out).mono ?_; rintro e w2 ⟨rfl, hS2, hu2⟩)))
          go_roundw
          case rel => exact ⟨j + 1, _, _, _, _, _, by omega, by go_num, HS.out.down hu2 hS2, Lib.hid fun h => by omega, Lib.hid fun h h' => by have := H06.out (by omega); omega⟩
          case measure => simp [intOf]; omega
        · have hm7 : m = 7 := by omega
          subst hm7
          have h06 : j = 0 → ¬ cutI (f 0) 0 7 < 6 := fun h => by rw [HF0.out h]; omega
          have H06 := Lib.hid h06
          clear h06 hm6 hm66
          cases ls with
          | nil =>
            have hl := List_any HS.out.stk (by simp)
            have hl : Calls Try.prog 12 #[.pointer (some ⟨g, 0, none⟩)] wr fun e w' => ∃ A c, e = .returned (.slice A 0 c) ∧ w'.ownsRow wr.heap.size 39 3 (.slice A 0 c) 0 (lvs []) ∧ Below wr.heap.size wr w' := hl
            have HL := Lib.hid hl
            clear hl
            go_wp2_with (first
              | (go_at_call 7; refine (Cut_any _ _ _ _ (by omega) (by omega) (by omega)).mono ?_; rintro e w1 ⟨rfl, rfl⟩; rw [HM.out])
              | (go_at_call 12; go_loud (refine HL.out.mono ?_; rintro e w2 ⟨LA, lc, rfl, hl2, hb2⟩; clear hl2)))
            go_roundw
            case rel => exact ⟨j + 1, _, _, _, _, _, by omega, by go_num, (HS.out.below hb2).more, Lib.hid fun h => by omega, Lib.hid fun h h' => by have := H06.out (by omega); omega⟩
            case measure => simp [intOf]; omega
          | cons x r =>
            have hl := List_any HS.out.stk (by simp at hlen ⊢; omega)
            have hl : Calls Try.prog 12 #[.pointer (some ⟨g, 0, none⟩)] wr fun e w' => ∃ A c, e = .returned (.slice A (r.length + 1) c) ∧ w'.ownsRow wr.heap.size 39 3 (.slice A (r.length + 1) c) (r.length + 1) (lvs (x :: r)) ∧ Below wr.heap.size wr w' := hl
            have HL := Lib.hid hl
            have htm := HS.out.good.tm 0 (by simp)
            have htm : 0 ≤ x.2.2 ∧ x.2.2 ≤ now := htm
            have hrl : r.length ≤ 1000 := by simp at hlen; omega
            have hr0 : (0 : Int) ≤ (r.length : Int) := by omega
            clear hl
            go_wp2_with (first
              | (go_at_call 7; refine (Cut_any _ _ _ _ (by omega) (by omega) (by omega)).mono ?_; rintro e w1 ⟨rfl, rfl⟩; rw [HM.out])
              | (go_at_call 12; go_loud (refine HL.out.mono ?_; rintro e w2 ⟨LA, lc, rfl, hl2, hb2⟩; obtain ⟨gl, lcap, hlv, hgl, hltl⟩ := hl2.form (by omega); have hLA : LA = some ⟨gl, 0, none⟩ := (Value.slice.inj hlv).1; subst hLA; have cl0 := hl2.cellAt 0 (by omega); rw [lvs_cons] at cl0; have cl : w2.cell? ⟨gl, 0, none⟩ = some (.string x.1) := cl0; clear cl0; have HS2 := Lib.hid (HS.out.below hb2); clear hl2 hlv))
              | (go_at_call 10; go_loud (refine (Leave_ok HS2.out.stk (j : Int) hrl (by omega) (wrong_ok' (by omega) (by omega))).mono ?_; rintro e w3 ⟨v3, rfl, hS3, hu3⟩; have hk3 := hu3.keep gl hltl (by have := HS.out.stk.lt; omega) (fun e => by have := (HS.out.stk.own.lt gl e).2; omega); have cl3 : w3.cell? ⟨gl, 0, none⟩ = some (.string x.1) := (World.cell?_of_block (a := ⟨gl, 0, none⟩) hk3).trans cl; have HS3 := Lib.hid hS3; have HOO3 := Lib.hid (own_upd HS2.out.oo hu3 HS2.out.a3); clear hS3 hk3))
              | (at_builtin; go_loud (refine wpList_append_oneN w3 w3.heap.size rfl #[.string x.1] rfl (.tmp 58) (.tmp 63) 33 rfl (g + 1) 9 i0 (.string ByteArray.empty) 1 16 Try.underlying33 J0 J1 J2 J3 rfl (by decide) (.slice VO outs.length co) outs.length (strsV outs) rfl HOO3.out rfl rfl (by simp [Value.oneCell']) (by have := HS.out.lo; omega) (by decide) (by have := HS3.out.lt; omega) ?_); intro g4 cap4 w4 hv4 hg4 hat4 hlt4))
            go_wp2
            go_roundw
            case rel => exact ⟨j + 1, _, _, _, _, _, by omega, by go_num, HS2.out.leave hu3 HS3.out hv4 hg4 hat4, Lib.hid fun h => by omega, Lib.hid fun h h' => by have := H06.out (by omega); omega⟩
            case measure => simp [intOf]; omega
    · obtain rfl : N = j := by omega
      have HS := Lib.hid hst
      clear hst
      go_wp2
      go_ret3
      exact ⟨_, _, _, _, _, _, _, _, rfl, HS.out, HONE.out⟩
end Go.Proofs.Ytjiofgfdfljgmaa
