/- ConsoleBack returns true for every input of bulk at most 1048576. -/
import Derived.Test.YtdlifdmnfbjokaaDoorLf
import Derived.Test.YtdlifdmnfbjokaaDoorLawU
import Derived.Test.YtdlifdmnfbjokaaDoorCB2
namespace Go.Proofs.YtdlifdmnfbjokaaDoor
open Go.ChangeShapes Go.WideShapes Go.ChangeAt Go.RowKit Go.ChangeMaps

/-- What the bound says of the text handed in. -/
theorem upto_str {H : Type} {d : DataW H} {s : ByteArray} (hk : Rows.uptoSmall H [d, .lit (.string s.data.toList)] = true) : s.size ≤ 1048576 := by
  have h : Rows.uptoBulkAll [d, .lit (.string s.data.toList)] ≤ 1048576 := of_decide_eq_true hk
  simp only [Rows.uptoBulkAll, Rows.uptoBulk] at h
  have e : s.data.toList.length = s.size := by rw [Array.length_toList]; rfl
  omega
theorem cells23 : Tryd.prog.cellsOf 23 = 4 := by kernel_rfl
/-- A command handed in. -/
theorem open_cm {H : Type} {enc : TypeId × Value → H} {W : World} {base b0 : Nat} {sp : Nat → Bool} {hd : Bool} {r : Reach} {v : Value} {d : DataW H} {p : List MemPlace}
    (hv : Value.okWide Tryd.prog W r base 23 v) (h : DataW.Trod enc Tryd.prog W b0 sp hd 23 v d p) : ∃ x : Cm, v = cmV x ∧ x.call.size ≤ maxLen ∧ x.fix.size ≤ maxLen := by
  obtain ⟨cs, rfl, hsz⟩ := okWide_struct Tryd.underlying23 hv
  have hsz := hsz.trans cells23
  obtain ⟨c0, c1, c2, c3, rfl⟩ : ∃ c0 c1 c2 c3, cs = #[c0, c1, c2, c3] := by
    obtain ⟨l⟩ := cs
    match l, hsz with
    | [c0, c1, c2, c3], _ => exact ⟨c0, c1, c2, c3, rfl⟩
  obtain ⟨fuel, hf⟩ := h
  obtain ⟨ys, n', hn', hy, hlen, hyl, hfl⟩ := DataW.trod_struct Tryd.underlying23 hf
  have k : ∀ (j : Nat) (hj : j < ys.length), ys[j]? = some (ys[j]'hj) := fun j hj => List.getElem?_eq_getElem hj
  have hl5 : ys.length = 4 := hyl
  have h0 : DataW.trod enc Tryd.prog W b0 sp hd n' 9 (List.take (Tryd.prog.cellsOf 9) [c0, c1, c2, c3]) = some (ys[0]'(by omega)) := (hfl 0 _ rfl).trans (k 0 (by omega))
  have h1 : DataW.trod enc Tryd.prog W b0 sp hd n' 9 (List.take (Tryd.prog.cellsOf 9) [c1, c2, c3]) = some (ys[1]'(by omega)) := (hfl 1 _ rfl).trans (k 1 (by omega))
  have h2 : DataW.trod enc Tryd.prog W b0 sp hd n' 3 (List.take (Tryd.prog.cellsOf 3) [c2, c3]) = some (ys[2]'(by omega)) := (hfl 2 _ rfl).trans (k 2 (by omega))
  have h3 : DataW.trod enc Tryd.prog W b0 sp hd n' 9 (List.take (Tryd.prog.cellsOf 9) [c3]) = some (ys[3]'(by omega)) := (hfl 3 _ rfl).trans (k 3 (by omega))
  have e9 : Tryd.prog.cellsOf 9 = 1 := by kernel_rfl
  have e3 : Tryd.prog.cellsOf 3 = 1 := by kernel_rfl
  rw [e9] at h0 h1 h3
  rw [e3] at h2
  simp only [List.take_succ_cons, List.take_zero] at h0 h1 h2 h3
  obtain ⟨q0, g0, _, f0⟩ := DataW.trod_string Tryd.underlying9 h0
  obtain ⟨q1, g1, _, f1⟩ := DataW.trod_string Tryd.underlying9 h1
  obtain ⟨q2, g2, _, f2⟩ := DataW.trod_int Tryd.underlying3 h2
  obtain ⟨q3, g3, _, f3⟩ := DataW.trod_string Tryd.underlying9 h3
  simp at g0 g1 g2 g3
  subst g0 g1 g2 g3
  exact ⟨⟨q0, q1, q2, q3⟩, rfl, f1, f3⟩

theorem back_reads (os : Os) {H : Type} (enc : TypeId × Value → H) : ∃ places, DataW.whole enc Tryd.prog ((World.laidAll Tryd.prog os laid7).forCall (fun _ _ => 0) ⟨#[], #[.agg #[.string ByteArray.empty, .string ByteArray.empty, .int .i64 0, .string ByteArray.empty], .string ByteArray.empty], []⟩).memory Tryd.f3.params.toList Rows.consoleBackSpec.vars false #[Value.agg #[.string ByteArray.empty, .string ByteArray.empty, .int .i64 0, .string ByteArray.empty], Value.string ByteArray.empty].toList 8 = some ([.agg [.lit (.string []), .lit (.string []), .lit (.int .i64 0), .lit (.string [])], .lit (.string [])], [], places) :=
  ⟨[], by kernel_rfl⟩

set_option maxRecDepth 100000 in
theorem ConsoleBack_lifted (os : Os) (started : os.Started) (H : Type) (enc : TypeId × Value → H) (F : Stop.Interp) :
    ReturnsInHanded {} Tryd.checked os 3 .any ((Rows.OpenSpec.upto Rows.consoleBackSpec).preRow enc Tryd.prog Tryd.f3 [] false laid7) (((Rows.OpenSpec.upto Rows.consoleBackSpec).at F).post enc Tryd.prog Tryd.f3 false true false false) := by
  obtain ⟨places, hx⟩ := back_reads os enc
  refine Law.liftedU laid7 started (by kernel_rfl) Tryd.func3 (by kernel_rfl) (tb := 4) rfl Tryd.underlying4 rfl (fun H ds hl => ?_)
    (witness_row_atRef (enc := enc) (C := Tryd.checked) false (World.laidAll Tryd.prog os laid7) #[.agg #[.string ByteArray.empty, .string ByteArray.empty, .int .i64 0, .string ByteArray.empty], .string ByteArray.empty] (World.laidAll_os _ _ _) (by kernel_rfl) (by kernel_rfl) (by kernel_rfl)
      (OpenSpec.preRow_of_cond 8 hx (by kernel_rfl) (fun k hk => by cases hk; kernel_rfl) (by kernel_rfl) (door_met os _))) ?_
  · match ds, hl with
    | [d0, d1], _ => rfl
  intro W base args ds p hval hA hk hlt hlaid hsh
  rw [Tryd.params3] at hA hval
  have hE := env_of hlaid hsh
  obtain ⟨v0, v1, d0, d1, p0, p1, rfl, rfl, rfl, h0, h1⟩ := trodAll_two hA
  obtain ⟨c, rfl, hc1, hc2⟩ := open_cm (hval 0 23 v0 rfl rfl) h0
  obtain ⟨s, rfl, rfl, rfl, hmax⟩ := open_string Tryd.underlying9 (hval 1 9 v1 rfl rfl) h1
  have hs := upto_str hk
  exact Back_walk c s W hc1 hc2 hs hE

theorem ConsoleBack_row : Rows.ConsoleBackUptoSaid :=
  OpenClaim.holds_of_cond 3 Tryd.f3 rfl rfl rfl rfl rfl rfl rfl ⟨rfl, rfl, rfl, rfl, rfl⟩ rfl rfl rfl rfl rfl (by kernel_rfl) Tryd.func3 (by kernel_rfl)
    (of_decide_eq_true (by kernel_rfl)) (by unfold Func.isWrapper; rw [if_neg (of_decide_eq_false (by kernel_rfl))]; exact ⟨rfl, rfl⟩)
    (fun os started H enc _ F => by rw [OpenClaim.pre_eq_preRow]; exact ConsoleBack_lifted os started H enc F)

theorem ConsoleBack_holds : Rows.ConsoleBackUptoCardSaid :=
  Claim7.holds_tied_plain_at .later [] _ _ _ _
    ConsoleBack_row (fun _ h => by cases h) (by kernel_rfl) (fun _ h => by cases h) consoleBackUpto_row_tie rfl ⟨rfl, rfl⟩ (by kernel_rfl) rfl
    (fun f fn hf hfn => by
      obtain rfl : f = 3 := Option.some.inj ((show Tryd.prog.funcNamed "skyway/skywaykeep4.ConsoleBack" = some 3 by kernel_rfl).symm.trans hf) |>.symm
      obtain rfl : fn = Tryd.f3 := (Option.some.inj (Tryd.func3.symm.trans hfn)).symm
      exact ⟨by kernel_rfl, fun j t ht => by
        rw [Tryd.params3] at ht
        have hm : t ∈ [23, 9] := by simpa using Array.mem_of_getElem? ht
        have hall : ([23, 9].all fun u => !Tryd.prog.wantsStandIn u) = true := by kernel_rfl
        exact (show Tryd.prog.wantsStandIn t = false by simpa using List.all_eq_true.1 hall t hm)⟩)
    (by kernel_rfl)
end Go.Proofs.YtdlifdmnfbjokaaDoor
