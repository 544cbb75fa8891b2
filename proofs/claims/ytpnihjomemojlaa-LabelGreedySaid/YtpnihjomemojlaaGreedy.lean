/- LabelGreedy returns true for every input. No conditions. -/
import Derived.Test.YtpnihjomemojlaaLaw
import Derived.Test.YtpnihjomemojlaaOIt
import Derived.Test.YtpnihjomemojlaaC8
namespace Go.Proofs.Ytpnihjomemojlaa
open Go.ChangeShapes Go.WideShapes Go.ChangeAt Go.RowKit

set_option maxRecDepth 100000 in
set_option maxHeartbeats 4000000 in
theorem Greedy_bad (a : Addr) (n c : Nat) (l : List It) (w : World) (hA : Sl w w.heap.size 4 (some a) n (fun i => itV l[i]!)) (hl : l.length = n) (hnc : n ≤ c) (hck : ckL (l.take (min n 6)) ≠ 0) :
    Calls Try.prog 5 #[.slice (some a) n c] w fun e w' => e = .returned (.bool true) ∧ Below w.heap.size w w' := by
  obtain ⟨q, hq⟩ : ∃ q, min n 6 = q := ⟨_, rfl⟩
  have hqn : q ≤ n := by omega
  have hq6 : q ≤ 6 := by omega
  have hqc : q ≤ c := by omega
  have hmin : min (n : Int) 6 = (q : Int) := by omega
  have hq0 : (0 : Int) ≤ (q : Int) := by omega
  have hqcI : (q : Int) ≤ (c : Int) := by omega
  rw [hq] at hck
  obtain ⟨m, hm⟩ : ∃ m, l.take q = m := ⟨_, rfl⟩
  rw [hm] at hck
  have hml : m.length = q := by rw [← hm, List.length_take]; omega
  have hmi : ∀ i, i < q → itV l[i]! = itV m[i]! := fun i hi => by
    rw [getElem!_pos l i (by omega), getElem!_pos m i (by omega)]
    subst hm
    rw [List.getElem_take]
  have hS0 : Sl w w.heap.size 4 (some a) q (fun i => itV m[i]!) := (hA.less hqn).congr hmi
  obtain ⟨ce, hce⟩ : ∃ ce, ckL m = ce := ⟨_, rfl⟩
  have hg := fun (W : World) (hW : Below w.heap.size w W) => Greedy_any (some a) q c m W ((hS0.below hW).more hW.size) hml (by omega)
  unfold GreedyP at hg
  rw [show greedyX m = ([], ce) by unfold greedyX; rw [if_pos hck, hce]] at hg
  simp only [List.length_nil] at hg
  have hp := fun (W : World) (hW : Below w.heap.size w W) => Place_any (some a) q c m W ((hS0.below hW).more hW.size) hml (by omega)
  unfold PlaceP at hp
  rw [show placeX m = ([], ce) by unfold placeX; rw [if_pos hck, hce]] at hp
  simp only [List.length_nil] at hp
  rw [hce] at hck
  have t1 : (ce != 0) = true := by simpa using hck
  have HG := Lib.hid hg
  have HP := Lib.hid hp
  clear hA hl hck hm hml hmi hS0 hce hg hp
  go_enter Try.func5, Try.ntmps5
  go_wp2_with (first
    | (go_at_call 11; have _h := B2; go_loud (refine (fact_any _).mono ?_; rintro e w3 ⟨rfl, hb3⟩))
    | (go_at_call 10; have _h := B1; go_loud (refine (HP.out _ B1.out).mono ?_; rintro e w2 ⟨P, cp, rfl, _, hb2⟩; have B2 := Lib.hid (B1.out.trans (hb2.mono B1.out.size)); clear hb2))
    | (go_at_call 13; go_loud (refine (HG.out _ (Below.refl _ _)).mono ?_; rintro e w1 ⟨G, cg, rfl, _, _, _, hb1⟩; have B1 := Lib.hid hb1; clear hb1)))
  go_ret
  exact ⟨rfl, B2.out.trans (hb3.mono B2.out.size)⟩

set_option maxRecDepth 100000 in
set_option maxHeartbeats 4000000 in
theorem Greedy_none (w : World) :
    Calls Try.prog 5 #[.slice none 0 0] w fun e w' => e = .returned (.bool true) ∧ Below w.heap.size w w' := by
  have hg := fun (W : World) => Greedy_any none 0 0 [] W (fun h => absurd h (by omega)) rfl (by omega)
  unfold GreedyP at hg
  rw [show greedyX [] = ([], 0) from rfl] at hg
  simp only [List.length_nil] at hg
  have hp := fun (W : World) => Place_any none 0 0 [] W (fun h => absurd h (by omega)) rfl (by omega)
  unfold PlaceP at hp
  rw [show placeX [] = ([], 0) from rfl] at hp
  simp only [List.length_nil] at hp
  have hf := fun (G : Option Addr) (cg : Nat) (W : World) => Fit_any none G 0 0 cg [] [] W (fun h => absurd h (by omega)) (fun h => absurd h (by omega)) rfl (by omega) (by omega) (fun i hi => by cases hi) (fun i hi => absurd hi (by omega))
  have hfit : Fit [] (fun i => ([] : List Int)[i]!) := fun i hi => absurd hi (by simp)
  have HG := Lib.hid hg
  have HP := Lib.hid hp
  have HF := Lib.hid hf
  have HFt := Lib.hid hfit
  have hc := fun (G : Option Addr) (cg : Nat) (W : World) => Contains_any G 0 cg [] (-1) W (fun h => absurd h (by omega)) rfl (by omega)
  rw [show decide ((-1 : Int) ∈ ([] : List Int)) = false from rfl] at hc
  have HC := Lib.hid hc
  have he := fun (G P : Option Addr) (cg cp : Nat) (W : World) => Equal_any G P 0 0 cg cp W.heap.size (fun _ => 0) (fun _ => 0) W (fun h => absurd h (by omega)) (fun h => absurd h (by omega)) (by omega) (by omega)
  rw [show eqB 0 0 (fun _ => 0) (fun _ => 0) = true from eqB_true rfl (fun _ _ => rfl)] at he
  have HE := Lib.hid he
  clear hg hp hf hfit hc he
  have hmin0 : min (0 : Int) 6 = 0 := by decide
  go_enter Try.func5, Try.ntmps5
  go_wp2_with (first
    | (go_at_call 14; have _h := B3; go_loud (refine (HF.out _ _ _).mono ?_; rintro e w4 ⟨⟨r, rfl, hr⟩, hb4⟩; obtain rfl : r = true := hr.2 HFt.out; have B4 := Lib.hid (B3.out.trans (hb4.mono B3.out.size)); clear hb4 hr))
    | (go_at_call 11; have _h := B2; go_loud (refine (fact_any _).mono ?_; rintro e w3 ⟨rfl, hb3⟩; have B3 := Lib.hid (B2.out.trans (hb3.mono B2.out.size)); clear hb3))
    | (go_at_call 10; have _h := B1; go_loud (refine (HP.out _).mono ?_; rintro e w2 ⟨P, cp, rfl, _, hb2⟩; have B2 := Lib.hid (B1.out.trans (hb2.mono B1.out.size)); clear hb2))
    | (go_at_call 13; go_loud (refine (HG.out _).mono ?_; rintro e w1 ⟨G, cg, rfl, _, _, _, hb1⟩; have B1 := Lib.hid hb1; clear hb1)))
  go_loopw [7, 8, 9, 10, 11, 60, 65] (fun _ _ _ _ _ t60 _ wr => t60 = .int .i64 0 ∧ Below w.heap.size w wr) (fun _ _ _ _ _ _ _ _ => 1)
  case atStart => exact ⟨rfl, B4.out⟩
  case round =>
    obtain ⟨rfl, hbr⟩ := hrel
    have HBr := Lib.hid hbr
    clear hbr
    go_wp2_with (first
      | (go_at_call 17; go_loud (refine (HC.out _ _ _).mono ?_; rintro e w5 ⟨rfl, rfl⟩))
      | (go_at_call 12; go_loud (refine (HE.out _ _ _ _ _).mono ?_; rintro e w6 ⟨rfl, hb6⟩)))
    go_ret
    exact ⟨rfl, HBr.out.trans (hb6.mono HBr.out.size)⟩

def itOf2 (x : Int × Int × Int × Int) : It := ⟨x.1, x.2.1, x.2.2.1, x.2.2.2⟩

set_option maxRecDepth 100000 in
theorem LabelGreedy_lifted (os : Os) (started : os.Started) (H : Type) (enc : TypeId × Value → H) :
    ReturnsInHanded {} Try.checked os 5 .any (Rows.labelGreedySpec.pre6 enc Try.prog Try.f5 [] false) (Rows.labelGreedySpec.post enc Try.prog Try.f5 false true false false) := by
  refine Law.lifted started (by kernel_rfl) Try.func5 (by kernel_rfl) (tb := 4) rfl Try.underlying4 rfl (fun H ds hl => ?_)
    (ChangeSpec.witness6 (enc := enc) (C := Try.checked) false ⟨#[], #[.slice none 0 0], []⟩ 8 (by kernel_rfl) (by kernel_rfl) (by kernel_rfl) (by kernel_rfl)) ?_
  · match ds, hl with
    | [d1], _ => rfl
  intro W base args ds p hval hA hwt _
  rw [Try.params5] at hA hval
  obtain ⟨v0, d0, rfl, rfl, h0⟩ := trodAll_one hA
  obtain ⟨A, n, c, f, rfl, hn, hc, hsl, hwf, hnil, _⟩ := openIt (hval 0 29 v0 rfl rfl) h0
  cases A with
  | none =>
    obtain ⟨rfl, rfl⟩ := hnil rfl
    exact Greedy_none W
  | some a =>
    have hS : Sl W W.heap.size 4 (some a) n (fun i => itV ((List.range n).map fun i => itOf2 (f i))[i]!) := (hsl.less hn).congr fun i hi => by
      have : ((List.range n).map fun i => itOf2 (f i))[i]! = itOf2 (f i) := by simp [hi]
      rw [this]; rfl
    by_cases hck : ckL (((List.range n).map fun i => itOf2 (f i)).take (min n 6)) = 0
    · exact Greedy_good a n c _ W hS (by simp) hn (fun i hi => by
        obtain ⟨j, hj, rfl⟩ := List.mem_map.1 hi
        have := hwf j (Nat.lt_of_lt_of_le (List.mem_range.1 hj) hn)
        exact ⟨this.1.1, this.2.1.1⟩) hck
    · exact Greedy_bad a n c _ W hS (by simp) hn hck

theorem LabelGreedy_holds : Rows.LabelGreedySaid :=
  OpenClaim.holds_of_wide 5 Try.f5 rfl rfl rfl rfl rfl rfl rfl ⟨rfl, rfl, rfl, rfl, rfl⟩ rfl rfl rfl rfl rfl (by kernel_rfl) Try.func5 (by kernel_rfl)
    (of_decide_eq_true (by kernel_rfl)) (by unfold Func.isWrapper; rw [if_neg (of_decide_eq_false (by kernel_rfl))]; exact ⟨rfl, rfl⟩)
    (fun os started H enc _ => LabelGreedy_lifted os started H enc)

end Go.Proofs.Ytpnihjomemojlaa
