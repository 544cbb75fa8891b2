/- Package strip: a strip, Check, the closure of index, slices.IndexFunc. -/
import Derived.Test.YtadhkncilokdjaaDoorName
import Derived.Test.YtadhkncilokdjaaDoorRw
import Derived.Test.YtadhkncilokdjaaDoorStr
import Derived.Lib.MinMax
namespace Go.Proofs.YtadhkncilokdjaaDoor
open Go.RowKit

structure St where
  c : ByteArray
  f : ByteArray
  t : Int
  h : Int
  b : Int
instance : Inhabited St := ⟨⟨ByteArray.empty, ByteArray.empty, 0, 0, 0⟩⟩
def stV (x : St) : List Value := [.string x.c, .string x.f, .int .i64 x.t, .int .i64 x.h, .int .i64 x.b]
theorem stV_len (x : St) : (stV x).length = 5 := rfl
theorem stV_one (x : St) : ∀ u ∈ stV x, u.oneCell' = true := fun u hu => by
  simp only [stV, List.mem_cons, List.not_mem_nil, or_false] at hu
  rcases hu with rfl | rfl | rfl | rfl | rfl <;> rfl
/-- What Check says. -/
def stE (x : St) : Int := if (nameB x.c && nameB x.f) = false then 6 else if 0 ≤ x.t ∧ x.t ≤ 200000 ∧ 0 ≤ x.h ∧ x.h ≤ 60000 ∧ 0 ≤ x.b ∧ x.b ≤ 3 then 0 else 4

theorem noBay_any (b : Int) (W : World) : Calls Tryd.prog 20 #[.int .i64 b] W fun e w' => e = .returned (.bool (!(decide (0 ≤ b) && decide (b ≤ 3)))) ∧ W = w' := by
  go_enter Tryd.func20, Tryd.ntmps20
  by_cases h1 : b < 0
  · have e : (decide (0 ≤ b) && decide (b ≤ 3)) = false := by simp; omega
    rw [e]
    clear e
    go_wp2
    go_ret
    exact ⟨rfl, rfl⟩
  · by_cases h2 : 3 < b
    · have e : (decide (0 ≤ b) && decide (b ≤ 3)) = false := by simp; omega
      rw [e]
      clear e
      go_wp2
      go_ret
      exact ⟨rfl, rfl⟩
    · have e : (decide (0 ≤ b) && decide (b ≤ 3)) = true := by simp; omega
      rw [e]
      clear e
      go_wp2
      go_ret
      exact ⟨rfl, rfl⟩

set_option maxRecDepth 100000 in
set_option maxHeartbeats 4000000 in
theorem Check_any (x : St) (w : World) (h1 : x.c.size ≤ maxLen) (h2 : x.f.size ≤ maxLen) :
    Calls Tryd.prog 17 #[.agg #[.string x.c, .string x.f, .int .i64 x.t, .int .i64 x.h, .int .i64 x.b]] w fun e w' => e = .returned (.int .i64 (stE x)) ∧ Below w.heap.size w w' := by
  have HN1 := Lib.hid (fun W => Name_any x.c W h1)
  have HN2 := Lib.hid (fun W => Name_any x.f W h2)
  have HE : Hid (stE x = if (nameB x.c && nameB x.f) = false then 6 else if 0 ≤ x.t ∧ x.t ≤ 200000 ∧ 0 ≤ x.h ∧ x.h ≤ 60000 ∧ 0 ≤ x.b ∧ x.b ≤ 3 then 0 else 4) := Lib.hid rfl
  generalize stE x = r at *
  clear h1 h2
  obtain ⟨c, f, t, h, b⟩ := x
  dsimp only at HN1 HN2 HE
  dsimp only
  have HB := Lib.hid (fun W => noBay_any b W)
  obtain ⟨v, hv⟩ : ∃ v, w.heap.size = v := ⟨_, rfl⟩
  obtain ⟨W0, hW0, g0, hb0⟩ : ∃ W0, w.alloc (.cells #[.string c, .string f, .int .i64 t, .int .i64 h, .int .i64 b] 24) = W0 ∧ W0.heap[v]? = some (.cells #[.string c, .string f, .int .i64 t, .int .i64 h, .int .i64 b] 24 (0, 0)) ∧ Below v w W0 :=
    ⟨_, rfl, by rw [← hv]; exact heap_alloc_new w _, (Below.refl v w).alloc (by omega) _⟩
  have hvl : v < W0.heap.size := (Array.getElem?_eq_some_iff.1 g0).1
  have HG := Lib.hid (And.intro g0 hb0)
  have k0 := cell_of_row W0 v 0 _ 24 (0, 0) g0
  have k1 := cell_of_row W0 v 1 _ 24 (0, 0) g0
  clear g0 hb0
  generalize nameB c = n1 at *
  generalize nameB f = n2 at *
  cases n1 with
  | false =>
    go_enter Tryd.func17, Tryd.ntmps17
    go_wp2_with (go_at_call 32; go_loud (refine (HN1.out _).mono ?_; rintro e w1 ⟨rfl, hb1⟩))
    go_ret
    exact ⟨by rw [HE.out]; rfl, by rw [hv]; exact HG.out.2.trans (hb1.mono (by omega))⟩
  | true =>
    have tok1 : True := trivial
    have arm1 := Lib.hid (fun (w1 : World) (hb1 : Below W0.heap.size W0 w1) => And.intro ((hb1.block v hvl).trans HG.out.1) (HG.out.2.trans (hb1.mono (by omega))))
    cases n2 with
    | false =>
      go_enter Tryd.func17, Tryd.ntmps17
      go_wp2_with (first
        | (go_at_call 32; have _t := tok1; go_loud (refine (HN1.out _).mono ?_; rintro e w1 ⟨rfl, hb1⟩; have H1 := Lib.hid (arm1.out w1 hb1); have j0 := cell_of_row w1 v 0 _ 24 (0, 0) H1.out.1; have j1 := cell_of_row w1 v 1 _ 24 (0, 0) H1.out.1; have hz1 := hb1.size; clear hb1 tok1 _t))
        | (go_at_call 32; go_loud (refine (HN2.out _).mono ?_; rintro e w2 ⟨rfl, hb2⟩)))
      go_ret
      exact ⟨by rw [HE.out]; rfl, by rw [hv]; exact H1.out.2.trans (hb2.mono (by omega))⟩
    | true =>
      cases hbd : (decide (0 ≤ b) && decide (b ≤ 3))
      all_goals
        rw [hbd] at HB
        have hb9 : Hid ((decide (0 ≤ b) && decide (b ≤ 3)) = (decide (0 ≤ b) && decide (b ≤ 3))) := Lib.hid rfl
        simp only [Bool.and_eq_true, Bool.and_eq_false_iff, decide_eq_true_eq, decide_eq_false_iff_not] at hbd
        have HBD := Lib.hid hbd
        clear hbd hb9
        go_enter Tryd.func17, Tryd.ntmps17
        go_wp2_with (first
          | (go_at_call 32; have _t := tok1; go_loud (refine (HN1.out _).mono ?_; rintro e w1 ⟨rfl, hb1⟩; have H1 := Lib.hid (arm1.out w1 hb1); have j0 := cell_of_row w1 v 0 _ 24 (0, 0) H1.out.1; have j1 := cell_of_row w1 v 1 _ 24 (0, 0) H1.out.1; have hz1 := hb1.size; clear hb1 tok1 _t))
          | (go_at_call 32; go_loud (refine (HN2.out _).mono ?_; rintro e w2 ⟨rfl, hb2⟩; have H2 := Lib.hid (And.intro ((hb2.block v (by omega)).trans H1.out.1) (H1.out.2.trans (hb2.mono (by omega)))); have i2 := cell_of_row w2 v 2 _ 24 (0, 0) H2.out.1; have i3 := cell_of_row w2 v 3 _ 24 (0, 0) H2.out.1; have i4 := cell_of_row w2 v 4 _ 24 (0, 0) H2.out.1; clear hb2))
          | (go_at_call 20; go_loud (refine (HB.out _).mono ?_; rintro e w3 ⟨rfl, rfl⟩)))
        all_goals
          go_ret
          refine ⟨?_, by first | exact H2.out.2 | (rw [hv]; exact H2.out.2)⟩
          rw [HE.out]
          have hbd := HBD.out
          simp only [Bool.and_self, Bool.true_eq_false, if_false]
          split
          all_goals first
            | rfl
            | (exfalso; omega)
end Go.Proofs.YtadhkncilokdjaaDoor
