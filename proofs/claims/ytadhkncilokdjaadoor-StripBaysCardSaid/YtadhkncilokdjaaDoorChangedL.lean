/- StripChanged returns true for every input. -/
import Derived.Test.YtadhkncilokdjaaDoorLf
import Derived.Test.YtadhkncilokdjaaDoorB1
namespace Go.Proofs.YtadhkncilokdjaaDoor
open Go.ChangeShapes Go.WideShapes Go.ChangeAt Go.RowKit

/-- Strips handed in. -/
theorem sts_of {W : World} {A : Option Addr} {n c : Nat} {f : Nat → ByteArray × ByteArray × Int × Int × Int} (hn : n ≤ c) (hsl : Sl W W.heap.size 5 A c (fun i => rowSt (f i))) (hwf : ∀ i, i < c → wfSt (f i)) :
    ∃ g : Nat → St, Sl W W.heap.size 5 A n (fun i => stV (g i)) ∧ ∀ i, i < n → (g i).c.size ≤ maxLen ∧ (g i).f.size ≤ maxLen := by
  refine ⟨fun i => ⟨(f i).1, (f i).2.1, (f i).2.2.1, (f i).2.2.2.1, (f i).2.2.2.2⟩, hsl.less hn, fun i hi => ?_⟩
  have := hwf i (by omega)
  unfold wfSt at this
  exact ⟨this.1, this.2.1⟩

set_option maxRecDepth 100000 in
theorem StripChanged_lifted (os : Os) (started : os.Started) (H : Type) (enc : TypeId × Value → H) :
    ReturnsInHanded {} Tryd.checked os 3 .any (fun w args => (Rows.stripChangedSpec.pre enc Tryd.prog Tryd.f3 [] false w args ∧ laidMetH Tryd.prog laidT w) ∧ sizedMet enc Tryd.prog Tryd.f3 (OpenSpec.ofChange Rows.stripChangedSpec) false w args) (Rows.stripChangedSpec.post enc Tryd.prog Tryd.f3 false true false false) := by
  refine Law.lifted laidT started (by kernel_rfl) Tryd.func3 (by kernel_rfl) (tb := 4) rfl Tryd.underlying4 rfl (fun H ds hl => ?_)
    (ChangeSpec.witness_shaped (enc := enc) (C := Tryd.checked) (os := os) (X := fun w _ => laidMetH Tryd.prog laidT w) false (World.doorLaid Tryd.prog 400 os) #[.slice none 0 0, .agg #[.string ByteArray.empty, .string ByteArray.empty, .int .i64 0, .int .i64 0, .int .i64 0]] 8 rfl (World.shaped_of_RefB (by kernel_rfl) (by kernel_rfl)) (by kernel_rfl) (by kernel_rfl) (by kernel_rfl) (door_metT os _)) ?_
  · match ds, hl with
    | [d0, d1], _ => rfl
  intro W base args ds p hval hA hwt hlt hlaid hsh
  rw [Tryd.params3] at hA hval
  have hE := env_of hlaid
  obtain ⟨v0, v1, d0, d1, p0, p1, rfl, rfl, rfl, h0, h1⟩ := trodAll_two hA
  obtain ⟨A, n, c, f, rfl, hn, hc, hS, hf, hnil, _⟩ := openSt (hval 0 22 v0 rfl rfl) h0
  obtain ⟨s, rfl, hs⟩ := open_st (hval 1 24 v1 rfl rfl) h1
  obtain ⟨g, hg1, hg2⟩ := sts_of hn hS hf
  exact SChanged_any A n c g s W ⟨hn, hc⟩ hg1 hg2 hs hE

theorem StripChanged_row : Rows.StripChangedSaid :=
  OpenClaim.holds_of_wide 3 Tryd.f3 rfl rfl rfl rfl rfl rfl rfl ⟨rfl, rfl, rfl, rfl, rfl⟩ rfl rfl rfl rfl rfl (by kernel_rfl) Tryd.func3 (by kernel_rfl)
    (of_decide_eq_true (by kernel_rfl)) (by unfold Func.isWrapper; rw [if_neg (of_decide_eq_false (by kernel_rfl))]; exact ⟨rfl, rfl⟩)
    (fun os started H enc _ => StripChanged_lifted os started H enc)

theorem StripChanged_holds : Rows.StripChangedCardSaid :=
  Claim7.holds_tied_plain_at .later [] [.data, .data, .data] true (true, "6fcf76016de47e6f8cbb88d1d2b459c2c30ee138bbaf83d8f3b2b228e3558b28") false
    StripChanged_row (fun _ h => by cases h) (by kernel_rfl) (fun _ h => by cases h) stripChanged_row_tie rfl ⟨rfl, rfl⟩ (by kernel_rfl) rfl
    (fun f fn hf hfn => by
      obtain rfl : f = 3 := Option.some.inj ((show Tryd.prog.funcNamed "skyway/skywaykeep4.StripChanged" = some 3 by kernel_rfl).symm.trans hf) |>.symm
      obtain rfl : fn = Tryd.f3 := (Option.some.inj (Tryd.func3.symm.trans hfn)).symm
      exact ⟨by kernel_rfl, fun j t ht => by
        rw [Tryd.params3] at ht
        have hm : t ∈ [22, 24] := by simpa using Array.mem_of_getElem? ht
        have hall : ([22, 24].all fun u => !Tryd.prog.wantsStandIn u) = true := by kernel_rfl
        exact (show Tryd.prog.wantsStandIn t = false by simpa using List.all_eq_true.1 hall t hm)⟩)
    (by kernel_rfl)
end Go.Proofs.YtadhkncilokdjaaDoor
