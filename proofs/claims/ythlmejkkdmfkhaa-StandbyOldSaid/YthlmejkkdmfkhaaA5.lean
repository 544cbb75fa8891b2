/- Package standby: Takeover, Submit. -/
import Derived.Test.YthlmejkkdmfkhaaA4
namespace Go.Proofs.Ythlmejkkdmfkhaa
open Go.RowKit

def Pr.subE (p : Pr) : Int := if p.subNo = true then 9 else 0
def Pr.subN (p : Pr) : Int := if p.subNo = true then 0 else (p.ps.length : Int) + 1
def Pr.overs (p : Pr) : Pr := if (p.ss.length : Int) < p.ans then p else p.over
def Pr.oversE (p : Pr) : Int := if (p.ss.length : Int) < p.ans then 21 else 0

section
variable {g : Nat} {p : Pr} {vp vs vw : Value} {w : World}
theorem PairAt.over (h : PairAt g p vp vs vw w) (x : Int) (hx : x = p.term + 1) :
    PairAt g p.over vs (.slice none 0 0) vw ((((w.setCell ⟨g, 0, none⟩ vs).setCell ⟨g, 1, none⟩ (.slice none 0 0)).setCell ⟨g, 3, none⟩ (.int .i64 x)).setCell ⟨g, 4, none⟩ (.int .i64 0)) ∧
      Ch g (Own g vp vs vw) (Own g vs (.slice none 0 0) vw) w ((((w.setCell ⟨g, 0, none⟩ vs).setCell ⟨g, 1, none⟩ (.slice none 0 0)).setCell ⟨g, 3, none⟩ (.int .i64 x)).setCell ⟨g, 4, none⟩ (.int .i64 0)) := by
  subst hx
  have b1 := heap_setCell_same w g 0 _ 39 vs h.blk
  have b2 := heap_setCell_same _ g 1 _ 39 (.slice none 0 0) b1
  have b3 := heap_setCell_same _ g 3 _ 39 (.int .i64 (p.term + 1)) b2
  have b4 := heap_setCell_same _ g 4 _ 39 (.int .i64 0) b3
  have k : ∀ {e : TypeId} {sz n : Nat} {v : Value} {xs : List Value}, w.ownsRow (g + 1) e sz v n xs → ((((w.setCell ⟨g, 0, none⟩ vs).setCell ⟨g, 1, none⟩ (.slice none 0 0)).setCell ⟨g, 3, none⟩ (.int .i64 (p.term + 1))).setCell ⟨g, 4, none⟩ (.int .i64 0)).ownsRow (g + 1) e sz v n xs := by
    intro e sz n v xs h0
    have h1 := h0.kept (grown_setCell w g 0 vs) (own_ne h0 (Nat.lt_succ_self g))
    have h2 := h1.kept (grown_setCell _ g 1 (.slice none 0 0)) (own_ne h1 (Nat.lt_succ_self g))
    have h3 := h2.kept (grown_setCell _ g 3 (.int .i64 (p.term + 1))) (own_ne h2 (Nat.lt_succ_self g))
    exact h3.kept (grown_setCell _ g 4 (.int .i64 0)) (own_ne h3 (Nat.lt_succ_self g))
  refine ⟨⟨by simpa [Pr.over] using b4, k h.os, World.ownsRow_nil _ _ _ _, k h.ow, .inr (.inl rfl), h.a3, .inl rfl⟩, ⟨?_, fun i hi hn => ?_, fun i hi => ?_⟩⟩
  · exact ((((Below.refl g w).setCell (p := ⟨g, 0, none⟩) (Nat.le_refl _) _).setCell (p := ⟨g, 1, none⟩) (Nat.le_refl _) _).setCell (p := ⟨g, 3, none⟩) (Nat.le_refl _) _).setCell (p := ⟨g, 4, none⟩) (Nat.le_refl _) _
  · have hne : i ≠ g := fun e => hn (.inl e)
    rw [heap_setCell_other _ _ _ _ hne, heap_setCell_other _ _ _ _ hne, heap_setCell_other _ _ _ _ hne, heap_setCell_other _ _ _ _ hne]
  · rcases hi with hi | hi | hi | hi
    · exact .inl (.inl hi)
    · exact .inl (.inr (.inr (.inl hi)))
    · cases hi
    · exact .inl (.inr (.inr (.inr hi)))

set_option maxRecDepth 100000 in
set_option maxHeartbeats 2000000 in
theorem Takeover_any (h : PairAt g p vp vs vw w) (hn : p.ss.length ≤ 1000) (ht : 0 ≤ p.term ∧ p.term ≤ 1000000) :
    Calls Try.prog 25 #[.pointer (some ⟨g, 0, none⟩)] w (Pp g (Own g vp vs vw) p.overs (.returned (.int .i64 p.oversE)) w) := by
  obtain ⟨A, c, rfl⟩ := own_shape h.op
  obtain ⟨S, cs, rfl⟩ := own_shape h.os
  have c0 := h.cell 0
  have c1 := h.cell 1
  have c3 := h.cell 3
  have c4 := h.cell 4
  have c5 := h.cell 5
  have f0 := h.frozen 0
  have f1 := h.frozen 1
  have f3 := h.frozen 3
  have f4 := h.frozen 4
  have hlt := h.lt
  have HH := Lib.hid h
  have n0 : (0 : Int) ≤ (p.ss.length : Int) := by omega
  have htw : IntKind.i64.wrap (p.term + 1) = p.term + 1 := IntWalk.i64_in _ (by omega)
  by_cases hlost : (p.ss.length : Int) < p.ans
  · have HD : Hid (p.overs = p ∧ p.oversE = 21) := Lib.hid ⟨if_pos hlost, if_pos hlost⟩
    have hl : decide ((p.ss.length : Int) < p.ans) = true := by simpa using hlost
    clear h hlost
    go_enter Try.func25, Try.ntmps25
    go_wp2
    go_quiet (fail)
    go_wp2
    go_ret
    rw [HD.out.1, HD.out.2]
    exact (Pp.of HH.out (Ch.refl _ _ _)).more (below_drewN (Below.refl _ _) _) (Nat.le_of_lt hlt)
  · have HD : Hid (p.overs = p.over ∧ p.oversE = 0) := Lib.hid ⟨if_neg hlost, if_neg hlost⟩
    have hl : decide ((p.ss.length : Int) < p.ans) = false := by simpa using hlost
    clear h hlost
    go_enter Try.func25, Try.ntmps25
    go_wp2
    go_quiet (fail)
    go_wp2
    go_ret
    rw [HD.out.1, HD.out.2]
    obtain ⟨r1, r2⟩ := HH.out.over (p.term + 1) rfl
    exact (Pp.of r1 r2).more (below_drewN (Below.refl _ _) _) (Nat.le_of_lt r1.lt)

set_option maxRecDepth 100000 in
set_option maxHeartbeats 4000000 in
theorem Submit_any (h : PairAt g p vp vs vw w) (t : ByteArray) (hp : p.ps.length ≤ 64) (hw : p.ws.length ≤ 64) (ht : t.size ≤ 120) :
    Calls Try.prog 26 #[.pointer (some ⟨g, 0, none⟩), .string t] w (Pp g (Own g vp vs vw) (p.submit t) (.returned (.tuple #[.int .i64 p.subN, .int .i64 p.subE])) w) := by
  obtain ⟨A, c, rfl⟩ := own_shape h.op
  obtain ⟨S, cs, rfl⟩ := own_shape h.ow
  have c0 := h.cell 0
  have c2 := h.cell 2
  have f0 := h.frozen 0
  have hlt := h.lt
  have HH := Lib.hid h
  obtain ⟨i0, J0, J1, J2, J3⟩ := info_parts str_info
  have n0 : (0 : Int) ≤ (p.ps.length : Int) := by omega
  have m0 : (0 : Int) ≤ (p.ws.length : Int) := by omega
  have t0 : (0 : Int) ≤ (t.size : Int) := by omega
  by_cases hno : p.subNo = true
  · have HD : Hid (p.submit t = p ∧ p.subN = 0 ∧ p.subE = 9) := Lib.hid ⟨if_pos hno, if_pos hno, if_pos hno⟩
    have hc : p.ps.length = 64 ∨ p.ws.length = 64 := by unfold Pr.subNo at hno; simpa using hno
    clear hno h
    by_cases hc1 : p.ps.length = 64
    · have hb1 : ((p.ps.length : Int) == 64) = true := by simp; omega
      have HC1 := Lib.hid hc1
      clear hc1 hc
      go_enter Try.func26, Try.ntmps26
      go_wp2
      go_ret2
      rw [HD.out.1, HD.out.2.1, HD.out.2.2]
      exact Pp.of HH.out (Ch.refl _ _ _)
    · have hb1 : ((p.ps.length : Int) == 64) = false := by simp; omega
      have hc2 : p.ws.length = 64 := by omega
      have hb2 : ((p.ws.length : Int) == 64) = true := by simp; omega
      have HC1 := Lib.hid hc1
      have HC2 := Lib.hid hc2
      clear hc1 hc2 hc
      go_enter Try.func26, Try.ntmps26
      go_wp2
      go_ret2
      rw [HD.out.1, HD.out.2.1, HD.out.2.2]
      exact Pp.of HH.out (Ch.refl _ _ _)
  · have HD : Hid (p.submit t = (p.add t).push [entry (p.add t) p.ps.length] ∧ p.subN = (p.ps.length : Int) + 1 ∧ p.subE = 0) := Lib.hid ⟨if_neg hno, if_neg hno, if_neg hno⟩
    have hc : p.ps.length ≠ 64 ∧ p.ws.length ≠ 64 := by unfold Pr.subNo at hno; simpa using hno
    obtain ⟨hc1, hc2⟩ := hc
    have hb1 : ((p.ps.length : Int) == 64) = false := by simp; omega
    have hb2 : ((p.ws.length : Int) == 64) = false := by simp; omega
    have HPE : Hid ((p.add t).pushE [entry (p.add t) p.ps.length] = 0) := Lib.hid (by unfold Pr.pushE; rw [if_pos]; show p.ws.length + 1 ≤ 64; omega)
    have hp63 : p.ps.length < 64 := by omega
    have hw63 : p.ws.length < 64 := by omega
    have hpl : (p.add t).ps.length = p.ps.length + 1 := by simp [Pr.add]
    have HPL := Lib.hid hpl
    clear hno h hc1 hc2 hpl
    go_enter Try.func26, Try.ntmps26
    go_wp2_with (first
      | (at_builtin; go_loud (refine wpList_append_oneN w w.heap.size rfl #[.string t] rfl (.tmp 30) (.tmp 32) 26 rfl (g + 1) 9 i0 (.string ByteArray.empty) 1 16 Try.underlying26 J0 J1 J2 J3 rfl (by decide) (.slice A p.ps.length c) p.ps.length (strsV p.ps) rfl HH.out.op rfl rfl (by simp [Value.oneCell']) (by omega) (by decide) (by omega) ?_); intro g3 cap3 w3 hv3 hg3 hat3 hlt3; rw [show (#[Value.string t] : Array Value).toList = [.string t] from rfl, strsV_snoc] at hv3; obtain ⟨r1, r2, r3⟩ := HH.out.addP (o := .cells #[.string t] 9) (W := w.alloc (.cells #[.string t] 9)) (.inr rfl) (w1 := w3) (v' := .slice (some ⟨g3, 0, none⟩) (p.ps.length + 1) cap3) (l := p.ps ++ [t]) (by rw [List.length_append, List.length_singleton]; exact hv3) hg3 (N := w.heap.size + 1) (hat3.imp (fun e => e.symm) (fun e => by rw [← e]; rfl)) (by omega); have d0 := cell_of_row w3 g 0 _ 39 (0, 0) r3; have e0 := frozen_of_row w3 g 0 _ 39 r3; have R := Lib.hid (And.intro r1 r2); clear r1 r2 r3 hv3 hg3 hat3)
      | (go_at_call 32; go_loud (refine (message_any (p := p.add t) R.out.1 p.ps.length (by have := HPL.out; omega) (by have := HPL.out; omega) _ rfl).mono ?_; rintro e w4 ⟨rfl, hb4⟩; have R4 := Lib.hid (show PairAt g (p.add t) _ _ _ w4 from R.out.1.below hb4)))
      | (go_at_call 33; go_loud (refine (send_any (R4.out.below ((Below.refl _ _).alloc (Nat.le_refl _) _)) [entry (p.add t) p.ps.length] (some ⟨w4.heap.size, 0, none⟩) 1 (fun _ => ⟨w4.heap.size, 0, rfl, by simp, fun i hi j u hu => by
          have hi : i < 1 := hi
          obtain rfl : i = 0 := by omega
          rw [cell_of_row _ w4.heap.size _ _ 46 (0, 0) (heap_alloc_new w4 _), ← Array.getElem?_toList]
          simpa [rowM, msgV, entry] using hu⟩) (fun h => by cases h) (by show p.ws.length ≤ 1000; omega) (by simp)).mono ?_; rintro e w5 ⟨vp5, vs5, vw5, he5, hp5, hc5⟩; rw [HPE.out] at he5; subst he5; have HP := Lib.hid (And.intro hp5 hc5); clear hp5 hc5)))
    go_ret2
    rw [HD.out.1, HD.out.2.1, HD.out.2.2]
    exact ⟨vp5, vs5, vw5, rfl, HP.out.1, (R.out.2.trans (Ch.of_below (bstep hb4 ((Below.refl _ _).alloc (Nat.le_refl _) _)) (Nat.le_of_lt R.out.1.lt))).trans HP.out.2⟩

theorem todo_len (p : Pr) (j : Nat) : (p.todo j).length = j := by simp [Pr.todo]
theorem todo_succ (p : Pr) (j : Nat) : p.todo (j + 1) = p.todo j ++ [entry p (p.done.toNat + j)] := by simp [Pr.todo, List.range_succ]
/-- An append to a row that is none of the pair's. -/
theorem PairAt.far_app {w' : World} {o : Obj} {base : Nat} {e : TypeId} {sz n : Nat} {v : Value} {xs : List Value} (h : PairAt g p vp vs vw w) (hv : w.ownsRow base e sz v n xs) (hg : (w.alloc o).grownBy w' v.ownBlock) (ho : ∀ k, v.ownBlock = some k → ¬ Own g vp vs vw k) : PairAt g p vp vs vw w' := by
  have k : ∀ {u : Value}, (∀ k, u.ownBlock = some k → Own g vp vs vw k) → ApartV v u := fun {u} hu => by
    cases hx : v.ownBlock with
    | none => exact .inl hx
    | some a =>
      cases hy : u.ownBlock with
      | none => exact .inr (.inl hy)
      | some b =>
        right; right
        rw [hx, hy]
        intro x
        injection x with x
        subst x
        exact ho a hx (hu a hy)
  have hgn : some g ≠ v.ownBlock := fun x => ho g x.symm (.inl rfl)
  refine ⟨(hg.block g (by simp; have := h.lt; omega) hgn).trans ((Below.heap_alloc w o g h.lt).trans h.blk), own_app hv h.op (k fun _ x => .inr (.inl x)) hg, own_app hv h.os (k fun _ x => .inr (.inr (.inl x))) hg, own_app hv h.ow (k fun _ x => .inr (.inr (.inr x))) hg, h.a1, h.a2, h.a3⟩
theorem send_j (h : PairAt g p vp vs vw w) (j : Nat) (V : Option Addr) (cv : Nat) {base : Nat} (ho : w.ownsRow base 46 4 (.slice V j cv) j (msgsV (p.todo j))) (hj : j ≤ 64) (hw : p.ws.length ≤ 64) :
    Calls Try.prog 33 #[.pointer (some ⟨g, 0, none⟩), .slice V j cv] w (Pp g (Own g vp vs vw) (p.push (p.todo j)) (.returned (.int .i64 (p.pushE (p.todo j)))) w) := by
  have hl := todo_len p j
  have ho' : w.ownsRow base 46 4 (.slice V (p.todo j).length cv) (p.todo j).length (flatR (rowM (p.todo j)) (p.todo j).length) := by rw [rowM_flat, hl]; exact ho
  have := send_any h (p.todo j) V cv (Sl_flat (fun _ _ => rfl) ho') (fun hA => (own_nil ho' hA).1) (by omega) (by omega)
  rw [hl] at this
  exact this
set_option maxRecDepth 100000 in
set_option maxHeartbeats 4000000 in
theorem Resend_any (h : PairAt g p vp vs vw w) (hp : p.ps.length ≤ 64) (hw : p.ws.length ≤ 64) (hd : 0 ≤ p.done ∧ p.done ≤ (p.ps.length : Int)) :
    Calls Try.prog 21 #[.pointer (some ⟨g, 0, none⟩)] w (Pp g (Own g vp vs vw) p.resend (.returned (.int .i64 (p.pushE (p.todo p.left)))) w) := by
  obtain ⟨A, c, rfl⟩ := own_shape h.op
  have c4 := h.cell 4
  have hlt := h.lt
  have HH := Lib.hid h
  obtain ⟨d, hd'⟩ : ∃ d : Nat, p.done = d := ⟨p.done.toNat, by omega⟩
  have hdn : p.done.toNat = d := by omega
  have hdl : d ≤ p.ps.length := by omega
  have hleft : p.left = p.ps.length - d := by unfold Pr.left; rw [hdn]
  have HDN := Lib.hid hdn
  have HLEFT := Lib.hid hleft
  rw [hd'] at c4
  have hdw : IntKind.i64.wrap ((d : Int) + 1) = (d : Int) + 1 := IntWalk.i64_in _ (by omega)
  obtain ⟨i0, J0, J1, J2, J3⟩ := info_parts msg_info
  clear h hd hd' hdn hleft
  go_enter Try.func21, Try.ntmps21
  go_wp2
  go_loopw [3, 4] (fun v x wr => ∃ j : Nat, d + j ≤ p.ps.length ∧ x = .int .i64 ((d : Int) + 1 + j) ∧ PairAt g p (.slice A p.ps.length c) vs vw wr ∧ wr.ownsRow w.heap.size 46 4 v j (msgsV (p.todo j)) ∧ Below w.heap.size w wr) (fun _ x _ => (p.ps.length : Int).toNat + 1 - (intOf x).toNat)
  case atStart => exact ⟨0, by omega, by go_num, HH.out, World.ownsRow_nil _ _ _ _, Below.refl _ _⟩
  case round =>
    obtain ⟨j, hj, rfl, hpa, hown, hb⟩ := hrel
    obtain ⟨V, cv, rfl⟩ := own_shape hown
    have c0 := hpa.cell 0
    have HP := Lib.hid hpa
    have HO := Lib.hid hown
    have hz := hb.size
    clear hpa hown
    by_cases hlt2 : d + j < p.ps.length
    · have hle : ((d : Int) + 1 + (j : Int)) ≤ (p.ps.length : Int) := by omega
      have hw1 : IntKind.i64.wrap ((d : Int) + 1 + (j : Int) + 1) = (d : Int) + 1 + (j : Int) + 1 := IntWalk.i64_in _ (by omega)
      go_wp2_with (first
        | (go_at_call 32; go_loud (refine (message_any HP.out (d + j) hlt2 (by omega) _ (by omega)).mono ?_; rintro e w4 ⟨rfl, hb4⟩; have HO4 := Lib.hid (own_below HO.out hb4 (Nat.le_refl _)); have hz4 := hb4.size))
        | (at_builtin; go_loud (refine wpList_append_oneN w4 w4.heap.size rfl #[.int .i64 p.term, .int .i64 ((d : Int) + 1 + (j : Int)), .bool false, .string (textAt p (d + j))] rfl (.tmp 19) (.tmp 23) 33 rfl w.heap.size 46 i0 (.agg #[.int .i64 0, .int .i64 0, .bool false, .string ByteArray.empty]) 4 40 Try.underlying33 J0 J1 J2 J3 rfl (by decide) (.slice V j cv) j (msgsV (p.todo j)) rfl HO4.out rfl rfl (by simp [Value.oneCell']) (by omega) (by decide) (by omega) ?_); intro g5 cap5 w5 hv5 hg5 hat5 hlt5))
      go_roundw
      case rel =>
        have hb5 : Below w.heap.size w w5 := below_app (bstepB (Nat.le_refl _) hb (hb4)) (by omega) HO4.out (Nat.le_refl _) hg5
        refine ⟨j + 1, by omega, by go_num, (HP.out.below hb4).far_app HO4.out hg5 (fun k hk hO => by have := (HO4.out.lt k hk).1; have := (Own.ge HH.out hO).2; omega), ?_, hb5⟩
        rw [todo_succ, HDN.out, ← msgsV_snoc, show msgV (entry p (d + j)) = [.int .i64 p.term, .int .i64 ((d : Int) + 1 + (j : Int)), .bool false, .string (textAt p (d + j))] by unfold msgV entry; simp only []; rw [show (((d + j : Nat) : Int) + 1) = (d : Int) + 1 + (j : Int) by omega]]
        exact hv5
      case measure => simp [intOf]; omega
    · have hje : j = p.left := by have := HLEFT.out; omega
      have HJE := Lib.hid hje
      have hle : ¬ ((d : Int) + 1 + (j : Int)) ≤ (p.ps.length : Int) := by omega
      have hlen : (p.todo j).length = j := todo_len p j
      have HLEN := Lib.hid hlen
      have hj64 : j ≤ 64 := by omega
      clear hje hlt2 hlen
      go_wp2_with (go_at_call 33; go_loud (refine (send_j HP.out j V cv HO.out hj64 hw).mono ?_; rintro e w5 ⟨vp5, vs5, vw5, rfl, hp5, hc5⟩; have HP5 := Lib.hid (And.intro hp5 hc5); clear hp5 hc5))
      go_ret
      obtain ⟨r1, r2⟩ := HP5.out
      exact ⟨_, _, _, by rw [← HJE.out]; rfl, by unfold Pr.resend; rw [← HJE.out]; exact r1, (Ch.of_below hb (Nat.le_of_lt hlt)).trans r2⟩
end
end Go.Proofs.Ythlmejkkdmfkhaa
