/- What the closure of All tells. -/
import Derived.Test.YtblcgmihdgnhbaaB1
namespace Go.Proofs.Ytblcgmihdgnhbaa
open Go.RowKit Go.Shelf

attribute [local go_sem] Oper.semAt_some

theorem map_take_snoc {α : Type} (l : List Int) (f : Int → α) (i : Nat) (h : i < l.length) : (l.take (i + 1)).map f = (l.take i).map f ++ [f (l[i]?.getD 0)] := by
  rw [List.take_succ_eq_append_getElem h, List.map_append]
  simp [h]

theorem own_at {w : World} {base n c k : Nat} {A : Option Addr} {l : List Int} (h : w.ownsRow base 3 1 (.slice A n c) n (intsV l)) (hk : k < l.length) :
    ∃ b, A = some ⟨b, 0, none⟩ ∧ w.cell? ⟨b, k, none⟩ = some (.int .i64 (l[k]?.getD 0)) := by
  have hln : l.length = n := by have := h.1; simpa [intsV] using this
  obtain ⟨b, cap, hv, _, _⟩ := h.form (by omega)
  have hA : A = some ⟨b, 0, none⟩ := by injection hv
  subst hA
  have := h.cells (g := b) rfl k (.int .i64 (l[k]?.getD 0)) (by simp [intsV, hk])
  rw [Addr.add_mid, Nat.zero_add] at this
  exact ⟨b, rfl, this⟩

set_option maxRecDepth 100000 in
set_option maxHeartbeats 2000000 in
theorem All1_in (n : Nat) (hn : 1 ≤ n) (l Bn g n0 : Nat) (sz cnt : Int) (vs : Nat → Value) (ls : Nat → List Int) (C : Array Value) (J Jx : List (Fin 8 × Int) → World → Prop) (W : World) (hJ : AbidesFrom W.heap.size J)
    (hY : ∀ pre x W1, J pre W1 → pre.length < 10000 → YieldAt Fence.wide (n - 1) Try.prog l #[.int .i64 ((x.1.val : Nat) : Int), .int .i64 x.2] W1 fun e W' =>
      (e = .returned (.bool true) ∧ J (pre ++ [x]) W' ∧ KpM n0 W1 W') ∨ (e = .returned (.bool false) ∧ Jx (pre ++ [x]) W'))
    (hB : BoxAt g sz cnt vs ls C W) (hc : W.cell? ⟨Bn, 0, none⟩ = some (.pointer (some ⟨g, 0, none⟩))) (hBn : Bn < W.heap.size) (hn0 : n0 ≤ W.heap.size) (hl : ∀ p, p < 8 → (ls p).length ≤ 1000) (h0 : J [] W) :
    CallsIn Fence.wide n Try.prog 16 #[.func (.yield l) #[] #[], .pointer (some ⟨Bn, 0, none⟩)] W fun e W' => (∃ v, e = .returned v) ∧
      ((∃ ys, ys = tellM ls 8 ∧ J ys W') ∨ (∃ pre, True ∧ Jx pre W')) := by
  have HB := Lib.hid hB
  have HL := Lib.hid hl
  have HC := Lib.hid hc
  have hg := hB.lt
  clear hB hl hc
  refine callsIn_of_wp Try.func16 rfl trivial ?_ rfl
  simp only [Try.ntmps16, List.size_toArray, List.length_cons, List.length_nil, Nat.reduceAdd, Nat.reduceSub, Array.replicate_succ, Array.replicate_zero, List.push_toArray, List.append_toArray, List.nil_append, List.cons_append]
  gi_wp2
  gi_loopw [4, 8] (fun _ k wr => ∃ (j : Nat) (us : Nat → Value) (D : Array Value), j ≤ 8 ∧ k = .int .i64 (j : Int) ∧ Clones W.heap.size j us ls D wr ∧ Below W.heap.size W wr) (fun _ k _ => 8 - (intOf k).toNat)
  case atStart =>
    refine ⟨0, fun _ => .slice none 0 0, _, by omega, rfl, ⟨heap_alloc_new W _, by rfl, fun p hp => absurd hp (by omega)⟩, (Below.refl _ _).alloc (Nat.le_refl _) _⟩
  case round =>
    obtain ⟨j, us, D, hj, rfl, hCl, hbel⟩ := hrel
    have HCl := Lib.hid hCl
    clear hCl
    by_cases hlt : j < 8
    · have hj0 : (0 : Int) ≤ (j : Int) := by omega
      have hj8 : (j : Int) < 8 := by omega
      have hB' := HB.out.below hbel
      obtain ⟨A, cj, hvj⟩ := own_shape (hB'.own j hlt)
      have hown := hB'.own j hlt
      rw [hvj] at hown
      have ccj := (hB'.cell (2 + j)).trans ((hB'.cv j hlt).trans (congrArg some hvj))
      have c0 := (hbel.cell (p := ⟨Bn, 0, none⟩) hBn).trans HC.out
      have HO := Lib.hid hown
      have hjw : IntKind.i64.wrap ((j : Int) + 1) = (j : Int) + 1 := IntWalk.i64_in _ (by omega)
      clear hB' hvj hown
      gi_wp2_with (refine ⟨trivial, ?_⟩; gi_at_call 17; refine callsIn_wide.2 ((CloneL_any HO.out (HL.out j hlt)).mono ?_); rintro e w1 ⟨A', c', rfl, hown1, hb1⟩; have hh := (hb1.block _ (Array.getElem?_eq_some_iff.1 HCl.out.1).1).trans HCl.out.1; have ca := (cell_of_row w1 _ j D 45 (0, 0) hh).trans (Array.getElem?_eq_getElem (by have := HCl.out.2.1; omega)); have fa := frozen_of_row w1 _ j D 45 hh; clear hh)
      go_roundw
      case rel =>
        refine ⟨j + 1, _, _, by omega, by go_num, HCl.out.step hlt hb1 hown1, ?_⟩
        exact (hbel.trans (hb1.mono hbel.size)).setCell (p := ⟨W.heap.size, j, none⟩) (Nat.le_refl _) _
      case measure => simp [intOf]; omega
    · obtain rfl : j = 8 := by omega
      have hJ0 : J [] wr := hJ [] W wr none h0 ⟨hbel.os, hbel.tape, hbel.output, hbel.size, fun k hk _ => hbel.block k hk⟩ (fun r e => by cases e)
      clear hlt h0
      rw [show ((8 : Nat) : Int) = 8 from rfl]
      gi_wp2
      gi_loopw [5] (fun k wr => ∃ m : Nat, m ≤ 8 ∧ k = .int .i64 (7 - (m : Int)) ∧ J (tellM ls m) wr ∧ Clones W.heap.size 8 us ls D wr) (fun k _ => (intOf k + 1).toNat)
      case atStart => exact ⟨0, by omega, rfl, hJ0, HCl.out⟩
      case round =>
        obtain ⟨m, hm, rfl, hJm, hCm⟩ := hrel
        clear HCl hbel hJ0
        by_cases hlt : m < 8
        · obtain ⟨p, hp⟩ : ∃ p, p = 7 - m := ⟨_, rfl⟩
          have hp8 : p < 8 := by omega
          have hpi : (7 - (m : Int)) = (p : Int) := by omega
          rw [hpi]
          have hp0 : (0 : Int) ≤ (p : Int) := by omega
          have hpj : (p : Int) < 8 := by omega
          obtain ⟨hcv, hown⟩ := hCm.2.2 p hp8
          obtain ⟨A, c, hv⟩ := own_shape hown
          have cc := (cell_of_row wr _ p D 45 (0, 0) hCm.1).trans (hcv.trans (congrArg some hv))
          have hlp := HL.out p hp8
          have hlm := tellM_len (ls := ls) HL.out m hm
          have HP := Lib.hid hp
          have HPI := Lib.hid hpi
          have HV := Lib.hid hv
          have hT : tellM ls (m + 1) = tellM ls m ++ (ls p).map (fun v => (Fin.ofNat 8 p, v)) := by rw [hp]; rfl
          have HT := Lib.hid hT
          have hpw : IntKind.i64.wrap ((p : Int) - 1) = (p : Int) - 1 := IntWalk.i64_in _ (by omega)
          clear hp hpi hv hcv hown hT
          gi_wp2
          gi_loopw [7, 29] (fun _ i wr => ∃ k : Nat, k ≤ (ls p).length ∧ i = .int .i64 (k : Int) ∧ J (tellM ls m ++ ((ls p).take k).map (fun v => (Fin.ofNat 8 p, v))) wr ∧ Clones W.heap.size 8 us ls D wr) (fun _ i _ => (ls p).length - (intOf i).toNat)
          case atStart => exact ⟨0, by omega, rfl, by simpa using hJm, hCm⟩
          case round =>
            obtain ⟨k, hk, rfl, hJk, hCk⟩ := hrel
            clear hJm hCm cc
            by_cases hkl : k < (ls p).length
            · obtain ⟨_, hownk⟩ := hCk.2.2 p hp8
              rw [HV.out] at hownk
              obtain ⟨b, rfl, ck⟩ := own_at hownk hkl
              have hts := map_take_snoc (ls p) (fun v => (Fin.ofNat 8 p, v)) k hkl
              obtain ⟨x, hx⟩ : ∃ x, (ls p)[k]?.getD 0 = x := ⟨_, rfl⟩
              rw [hx] at ck hts
              have HTS := Lib.hid hts
              clear hx hts
              obtain ⟨fn, tmps, assign, body, hy, hR⟩ := hY _ (Fin.ofNat 8 p, x) wr hJk (by simp; omega)
              rw [show ((Fin.ofNat 8 p).val : Int) = (p : Int) by simp [Fin.ofNat, Nat.mod_eq_of_lt hp8]] at hy
              have hkw : IntKind.i64.wrap ((k : Int) + 1) = (k : Int) + 1 := IntWalk.i64_in _ (by omega)
              have hk0 : (0 : Int) ≤ (k : Int) := by omega
              have hkl' : (k : Int) < ((ls p).length : Int) := by omega
              clear hownk hY
              gi_wp2
              refine hR.mono ?_
              rintro e W3 (⟨rfl, hJ3, hk3⟩ | ⟨rfl, hJx3⟩)
              · have hC3 := hCk.keep hn0 hk3
                gi_wp2
                go_roundw
                case rel => exact ⟨k + 1, by omega, by go_num, by rw [HTS.out, ← List.append_assoc]; exact hJ3, hC3⟩
                case measure => simp [intOf]; omega
              · gi_wp2
                refine bodyPost_ret (results_none rfl _ _ _) rfl ?_
                exact ⟨⟨_, rfl⟩, .inr ⟨_, trivial, hJx3⟩⟩
            · obtain rfl : k = (ls p).length := by omega
              gi_wp2
              go_roundw
              case rel =>
                refine ⟨m + 1, by omega, congrArg (Value.int .i64) (by have := HP.out; omega), ?_, hCk⟩
                rw [HT.out]
                rw [List.take_length] at hJk
                exact hJk
              case measure => simp [intOf]
        · obtain rfl : m = 8 := by omega
          rw [show (7 - ((8 : Nat) : Int)) = -1 from rfl]
          gi_wp2
          go_end0
          exact ⟨⟨_, rfl⟩, .inl ⟨_, rfl, hJm⟩⟩
end Go.Proofs.Ytblcgmihdgnhbaa
