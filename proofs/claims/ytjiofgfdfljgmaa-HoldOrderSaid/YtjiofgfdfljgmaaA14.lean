/- The walk of HoldOrder. -/
import Derived.Test.YtjiofgfdfljgmaaA13
import Derived.BigQuiet
import Derived.Deep.QuietTactic
namespace Go.Proofs.Ytjiofgfdfljgmaa
open Go.RowKit

theorem strs_row {w : World} {N : Nat} {A : Option Addr} {l : List ByteArray} (h : Sl w N 1 A l.length (rowS l)) (hn : 0 < l.length) : ∃ b off, A = some ⟨b, off, none⟩ ∧ b < N ∧ ∀ i, i < l.length → w.cell? ⟨b, off + i, none⟩ = some (.string l[i]!) :=
  Sl.one (f := fun i => .string l[i]!) h hn
set_option maxRecDepth 100000 in
set_option maxHeartbeats 2000000 in
theorem EqualS (A B : Option Addr) (l : List ByteArray) (n c d N : Nat) (w : World) (hA : Sl w N 1 A l.length (rowS l)) (hB : Sl w N 1 B l.length (rowS l)) (hl : l.length = n) (hn : n ≤ 1000) :
    Calls Try.prog 14 #[.slice A n c, .slice B n d] w fun e w' => e = .returned (.bool true) ∧ ∃ q, w' = w.drewN q := by
  have HA := Lib.hid hA
  have HB := Lib.hid hB
  have HL := Lib.hid hl
  clear hA hB hl
  go_enter Try.func14, Try.ntmps14
  go_wp2
  go_loopw [13] (fun k wr => ∃ j : Nat, j ≤ n ∧ k = .int .i64 j ∧ ∃ q, wr = w.drewN q) (fun k _ => n - (intOf k).toNat)
  case atStart => exact ⟨0, by omega, rfl, 0, rfl⟩
  case round =>
    obtain ⟨j, hj, rfl, q, rfl⟩ := hrel
    by_cases hlt : j < n
    · obtain ⟨b, off, rfl, hb, hc⟩ := strs_row HA.out (by have := HL.out; omega)
      obtain ⟨b2, off2, rfl, hb2, hc2⟩ := strs_row HB.out (by have := HL.out; omega)
      have c1 := hc j (by have := HL.out; omega)
      have c2 := hc2 j (by have := HL.out; omega)
      clear hc hc2
      generalize l[j]! = x at *
      have l1 : (j : Int) < (n : Int) := by omega
      have l0 : (0 : Int) ≤ (j : Int) := by omega
      go_wp2
      go_quiet (fail)
      go_wp2
      go_roundw
      case rel => exact ⟨j + 1, by omega, by go_num, _, rfl⟩
      case measure => simp [intOf]; omega
    · go_wp2
      go_ret
      exact ⟨rfl, q, rfl⟩

theorem calls_snoc (ls : List Lv) {j : Nat} (hj : j < ls.length) : (ls.take (j + 1)).map (·.1) = (ls.take j).map (·.1) ++ [(at_ ls j).1] := by
  rw [List.take_succ_eq_append_getElem hj, List.map_append]
  unfold at_
  rw [getElem!_pos ls j hj]; rfl

set_option maxRecDepth 100000 in
set_option maxHeartbeats 8000000 in
theorem HOrder_any (A : Option Addr) (n c : Nat) (f : Nat → Int) (w : World) (hA : Sl w w.heap.size 1 A n (fun i => [.int .i64 (f i)])) (hn : n ≤ c) (hc : c ≤ maxLen) (hnil : A = none → n = 0 ∧ c = 0) :
    Calls Try.prog 6 #[.slice A n c] w fun e w' => e = .returned (.bool true) ∧ Below w.heap.size w w' := by
  have hs1 := Lib.hid (stack_any A n c (min n 30) f w hA hn hc hnil rfl)
  clear hA hn hc hnil
  have tok1 : True := trivial
  have tok2 : True := trivial
  obtain ⟨i0, J0, J1, J2, J3⟩ := info_parts str_info
  go_enter Try.func6, Try.ntmps6
  go_wp2_with (first
    | (go_at_call 11; have _t := tok1; refine hs1.out.mono ?_; rintro e w1 ⟨g, now, v, ls, ins, outs, vi, vo, rfl, hst, hone⟩; have HS := Lib.hid hst; clear hst hone tok1)
    | (go_at_call 11; go_loud (refine (stack_one w1.heap.size _ (heap_alloc_new w1 _)).mono ?_; rintro e w2 ⟨g2, now2, v2, vi2, vo2, ins2, outs2, rfl, hst2⟩; have HS2 := Lib.hid hst2; clear hst2))
    | (go_at_call 12; have _t := tok2; go_loud (refine (List_any HS2.out.stk (by decide)).mono ?_; rintro e w3 ⟨L3, c3, rfl, hl3, hb3⟩; have hlen1 : [(sF0, (3000 : Int), (0 : Int))].length = 1 := rfl; have H3 := Lib.hid hb3; clear hl3 hb3 tok2)))
  have hb13 : Below w1.heap.size w1 w3 := bstep (((Below.refl _ _).alloc (Nat.le_refl _) _).trans (HS2.out.bel.mono (by simp))) H3.out
  have HS3 := Lib.hid (HS.out.below hb13)
  have hlen := HS.out.good.len
  clear hlen1 hb13
  go_wp2_with (go_at_call 12; go_loud (refine (List_any HS3.out.stk (by omega)).mono ?_; rintro e w5 ⟨L5, c5, rfl, hl5, hb5⟩; have HL5 := Lib.hid (And.intro hl5 hb5); clear hl5 hb5))
  have HS5 := Lib.hid (HS3.out.below HL5.out.2)
  have hli := HS5.out.li
  have hlo := HS5.out.lo
  have hm30 : min n 30 ≤ 30 := Nat.min_le_right _ _
  generalize hmn : min n 30 = mm at *
  generalize hnn : ls.length = q at *
  have HNN := Lib.hid hnn
  clear hnn hmn
  go_loopw [9, 37] (fun v x wr => ∃ j : Nat, j ≤ q ∧ x = .int .i64 j ∧ wr.ownsRow w5.heap.size 9 1 v j (strsV ((ls.take j).map (·.1))) ∧ Below w5.heap.size w5 wr) (fun _ x _ => q - (intOf x).toNat)
  case atStart => exact ⟨0, by omega, rfl, World.ownsRow_nil _ _ _ _, Below.refl _ _⟩
  case round =>
    obtain ⟨j, hj, rfl, hown, hb⟩ := hrel
    obtain ⟨V, cv, rfl⟩ := own_shape hown
    have HO := Lib.hid hown
    have HB := Lib.hid hb
    have hz := hb.size
    clear hown
    by_cases hlt : j < q
    · obtain ⟨gl, lcap, hlv, hgl, hltl⟩ := HL5.out.1.form (by have := HNN.out; omega)
      have hL5 : L5 = some ⟨gl, 0, none⟩ := (Value.slice.inj hlv).1
      subst hL5
      obtain ⟨r0, r1, r2⟩ := lvs_row ls (j := j) (by have := HNN.out; omega)
      have hown := HL5.out.1
      have o0 := (hb.cell (p := ⟨gl, j * 3, none⟩) hltl).trans ((hown.cellAt (j * 3) (by have := HNN.out; omega)).trans r0)
      have o1 := (hb.cell (p := ⟨gl, j * 3 + 1, none⟩) hltl).trans ((hown.cellAt (j * 3 + 1) (by have := HNN.out; omega)).trans r1)
      have o2 := (hb.cell (p := ⟨gl, j * 3 + 2, none⟩) hltl).trans ((hown.cellAt (j * 3 + 2) (by have := HNN.out; omega)).trans r2)
      have hj0 : (0 : Int) ≤ (j : Int) := by omega
      have hjq : (j : Int) < (q : Int) := by omega
      have hgw : gl < wr.heap.size := Nat.lt_of_lt_of_le hltl hb.size
      have hsn := calls_snoc ls (j := j) (by have := HNN.out; omega)
      generalize hOf ls j = y at *
      generalize tOf ls j = tt at *
      generalize (at_ ls j).1 = nm at *
      have HSN := Lib.hid hsn
      have HOW : Hid ((wr.alloc (.cells #[.string nm, .int .i64 y, .int .i64 tt] 39)).ownsRow w5.heap.size 9 1 (.slice V j cv) j (strsV ((ls.take j).map (·.1)))) := Lib.hid (HO.out.alloc _)
      clear hlv hown r0 r1 r2 hsn hb
      go_wp2_with (at_builtin; go_loud (refine wpList_append_oneN (wr.alloc (.cells #[.string nm, .int .i64 y, .int .i64 tt] 39)) (wr.heap.size + 1) (by simp) #[.string nm] rfl (.tmp 41) (.tmp 44) 33 rfl w5.heap.size 9 i0 (.string ByteArray.empty) 1 16 Try.underlying33 J0 J1 J2 J3 rfl (by decide) (.slice V j cv) j _ rfl HOW.out rfl rfl (by simp [Value.oneCell']) (by omega) (by decide) (by simp; omega) ?_); intro g3 cap3 w6 hv6 hg6 hat6 hlt6)
      go_roundw
      case rel => exact ⟨j + 1, by omega, by go_num, by rw [HSN.out, strsV_snoc]; exact hv6, below_app (HB.out.alloc hz _) (by simp; omega) HOW.out (Nat.le_refl _) hg6⟩
      case measure => simp [intOf]; omega
    · obtain rfl : q = j := by omega
      have hst := HS5.out.below HB.out
      have HST := Lib.hid hst
      obtain ⟨VI, ci, rfl⟩ := own_shape HST.out.oi
      obtain ⟨VO, co, rfl⟩ := own_shape HST.out.oo
      have hq5 : q ≤ 5 := by omega
      have hlaw := HST.out.law
      have htk : ls.take q = ls := List.take_of_length_le (by have := HNN.out; omega)
      have hml : (ls.map (·.1)).length = q := by rw [List.length_map]; exact HNN.out
      have HTK : Hid (wr.ownsRow w5.heap.size 9 1 (.slice V q cv) q (strsV (ls.map (·.1)))) := Lib.hid (by have := HO.out; rw [htk] at this; exact this)
      have hil : ins.length = outs.length + q := by rw [hlaw, List.length_append, hml]
      have HLAW := Lib.hid (And.intro hlaw (And.intro hml hil))
      obtain ⟨oN, hoN⟩ : ∃ oN, outs.length = oN := ⟨_, rfl⟩
      have HON := Lib.hid hoN
      have hcon : ∀ W : World, Below wr.heap.size wr W → ∀ bb, W.heap[bb]? = some (.cells #[.slice VO oN co, .slice V q cv] 33 (0, 0)) → Calls Try.prog 15 #[.slice (some ⟨bb, 0, none⟩) 2 2] W fun e w' => ∃ A c, e = .returned (.slice A (oN + q) c) ∧ w'.ownsRow W.heap.size 9 1 (.slice A (oN + q) c) (oN + q) (strsV ins) ∧ Below W.heap.size W w' := fun W hW bb hbb => by
        have := Concat_two bb VO V co cv outs (ls.map (·.1)) W (by rw [HLAW.out.2.1, HON.out]; exact hbb) (((strs_sl HST.out.oo rfl).below hW).more hW.size) (((strs_sl HTK.out HLAW.out.2.1).below hW).more hW.size) (fun h => (own_nil HST.out.oo h).1) (fun h => by rw [HLAW.out.2.1]; exact (own_nil HTK.out h).1) (by omega) (by rw [HLAW.out.2.1]; omega)
        rw [HLAW.out.2.1, HON.out, ← HLAW.out.1] at this
        exact this
      have HCON := Lib.hid hcon
      rw [hoN] at hil
      simp only [hoN, hil]
      have HIL := Lib.hid hil
      clear hst hlaw htk hml hil hcon hb hoN
      go_wp2_with (first
        | (go_at_call 15; go_loud (refine (HCON.out _ ((Below.refl _ _).alloc (Nat.le_refl _) _) wr.heap.size (by exact heap_alloc_new wr _)).mono ?_; rintro e w7 ⟨A7, c7, rfl, hv7, hb7⟩; have H7 := Lib.hid (And.intro hv7 hb7); clear hv7 hb7))
        | (go_at_call 14; go_loud (refine (EqualS VI A7 ins (oN + q) ci c7 w7.heap.size w7 (((strs_sl HST.out.oi rfl).below (((Below.refl _ _).alloc (Nat.le_refl _) _).trans (H7.out.2.mono (by simp)))).more (by have := H7.out.2.size; simp at this; omega)) (strs_sl H7.out.1 HIL.out) HIL.out (by have := HON.out; omega)).mono ?_; rintro e w8 ⟨rfl, q8, rfl⟩)))
      go_ret
      exact ⟨rfl, HST.out.bel.trans ((((Below.refl _ wr).alloc (Nat.le_refl _) _).trans (below_drewN (H7.out.2.mono (by simp)) q8)).mono HST.out.bel.size)⟩
end Go.Proofs.Ytjiofgfdfljgmaa
