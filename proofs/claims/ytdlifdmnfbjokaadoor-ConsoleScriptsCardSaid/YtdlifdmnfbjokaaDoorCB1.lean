/- Parse at any text; the fixed example; equality of commands. -/
import Derived.Test.YtdlifdmnfbjokaaDoorCA6
import Derived.Test.YtdlifdmnfbjokaaDoorCA7
import Derived.Test.YtdlifdmnfbjokaaDoorCA8
import Derived.Test.YtdlifdmnfbjokaaDoorCA9
namespace Go.Proofs.YtdlifdmnfbjokaaDoor
open Go.RowKit
open Go.Lib hiding intOf

/-- Parse, at any text. -/
theorem Parse_any (s : ByteArray) (w : World) (hs : s.size ≤ 1100000) (he : Env w) : Calls Tryd.prog 6 #[.string s] w (PaP (parseC s) w) := by
  obtain ⟨l, hl⟩ : ∃ l, partsB s = l := ⟨_, rfl⟩
  obtain ⟨a, ha⟩ : ∃ a, pk l 0 = a := ⟨_, rfl⟩
  obtain ⟨N, hN⟩ : ∃ N, l.length = N := ⟨_, rfl⟩
  obtain ⟨v, hv⟩ : ∃ v, vIx a = v := ⟨_, rfl⟩
  have hN1 : 0 < N := by rw [← hN, ← hl, parts_len]; omega
  have hN2 : N ≤ 2000000 := by have := parts_len_le s; rw [hl, hN] at this; omega
  by_cases hn : v < 0
  · exact parse_v s l a N v w hs he hl ha hN hN1 hN2 hv hn
  cases hm : numV v with
  | true =>
    have hf : fixV v = false := by
      cases hf : fixV v with
      | false => rfl
      | true => rw [fix_num hf] at hm; cases hm
    by_cases hc : N = 3
    · have h3 := list3 (hN.trans hc)
      rw [ha] at h3
      generalize pk l 1 = b at h3
      generalize pk l 2 = x at h3
      rw [h3] at hl
      by_cases hat : ∃ u, atoiAll (bl x) = .ok u
      · obtain ⟨u, hat⟩ := hat
        by_cases hu : u < 0
        · exact parse_b s a b x v w hs he hl hv hn hm hf u hat hu
        by_cases hz : 6 < x.size
        · exact parse_c s a b x v w hs he hl hv hn hm hf u hat hu hz
        by_cases hx : mk (itoa u) = x
        · exact parse_e s a b x v w hs he hl hv hn hm hf u hat hu hz hx
        · exact parse_d s a b x v w hs he hl hv hn hm hf u hat hu hz hx
      · exact parse_a s a b x v w hs he hl hv hn hm hf (fun u h => hat ⟨u, h⟩)
    · exact parse_n3 s l a N v w hs he hl ha hN hN1 hN2 hv hn hm hc
  | false =>
    cases hf : fixV v with
    | true =>
      by_cases hc : N = 3
      · have h3 := list3 (hN.trans hc)
        rw [ha] at h3
        generalize pk l 1 = b at h3
        generalize pk l 2 = x at h3
        rw [h3] at hl
        exact parse_fix s a b x v w hs he hl hv hn hm hf
      · exact parse_f3 s l a N v w hs he hl ha hN hN1 hN2 hv hn hm hf hc
    | false =>
      by_cases hc : N = 2
      · have h3 := list2 (hN.trans hc)
        rw [ha] at h3
        generalize pk l 1 = b at h3
        rw [h3] at hl
        exact parse_two s a b v w hs he hl hv hn hm hf
      · exact parse_n2 s l a N v w hs he hl ha hN hN1 hN2 hv hn hm hf hc

def eqC (x y : Cm) : Bool := (x.verb.toList == y.verb.toList) && ((x.call.toList == y.call.toList) && ((x.n == y.n) && (x.fix.toList == y.fix.toList)))
theorem eqC_refl (x : Cm) : eqC x x = true := by unfold eqC; simp
set_option maxRecDepth 100000 in
theorem run_eqC (x y : Cm) (w : World) : (Op.equalIn 10000 23 (cmV x) (cmV y)).run Tryd.prog w = .ok (eqC x y) w := by
  have u9 := Tryd.underlying9
  have a9 := Tryd.isAgg9
  have z9 := Tryd.sizeOf9
  have u3 := Tryd.underlying3
  have a3 := Tryd.isAgg3
  have z3 := Tryd.sizeOf3
  have hS : Tryd.prog.underlying 23 = some (.struct (Tryd.prog.fieldsOf 23)) := by kernel_rfl
  have hp : Tryd.prog.stoodInHeld 23 = false := by kernel_rfl
  obtain ⟨n, t, k, z⟩ := x
  obtain ⟨n', t', k', z'⟩ := y
  simp only [cmV, eqC]
  rw [show (10000 : Nat) = 9999 + 1 from rfl, run_equalIn_agg w 9999 23 _ _ hS hp]
  simp only [Program.fieldsOf, Tryd.underlying23]
  go_simp
  by_cases h1 : n.toList = n'.toList <;> by_cases h2 : t.toList = t'.toList <;> by_cases h3 : k = k' <;> by_cases h4 : z.toList = z'.toList <;> simp [h1, h2, h3, h4]

set_option maxRecDepth 100000 in
set_option maxHeartbeats 2000000 in
theorem fact_any (w : World) (he : Env w) : Calls Tryd.prog 7 #[] w fun e w' => e = .returned (.bool true) ∧ Below w.heap.size w w' := by
  have h0 := Parse_any sx w (by decide) he
  rw [parsex] at h0
  unfold PaP at h0
  have hbe := fun W => run_eqC cx cx W
  rw [eqC_refl] at hbe
  unfold cmV cx sx at *
  dsimp only at *
  have HS := Lib.hid h0
  clear h0 he
  go_enter Tryd.func7, Tryd.ntmps7
  go_wp2_with (go_at_call 6; go_loud (refine HS.out.mono ?_; rintro e w1 ⟨rfl, hb1⟩))
  go_ret
  exact ⟨rfl, hb1.alloc hb1.size _⟩
end Go.Proofs.YtdlifdmnfbjokaaDoor
