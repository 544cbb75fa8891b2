/- The walks of StandbyKeeps and StandbyFollows. -/
import Derived.Test.YthlmejkkdmfkhaaA11
namespace Go.Proofs.Ythlmejkkdmfkhaa
open Go.RowKit

theorem own_nil_iff {g k : Nat} (h : Own g (.slice none 0 0) (.slice none 0 0) (.slice none 0 0) k) : k = g := by
  rcases h with h | h | h | h
  · exact h
  · cases h
  · cases h
  · cases h

set_option maxRecDepth 100000 in
set_option maxHeartbeats 4000000 in
theorem Keeps_any (A : Option Addr) (n c : Nat) (f : Nat → Int) (w : World) (hA : Sl w w.heap.size 1 A n (fun i => [.int .i64 (f i)])) (hn : n ≤ c) (hc : c ≤ maxLen) (hnil : A = none → n = 0 ∧ c = 0) :
    Calls Try.prog 3 #[.slice A n c] w fun e w' => e = .returned (.bool true) ∧ Below w.heap.size w w' := by
  have HA := Lib.hid hA
  have HN := Lib.hid hnil
  have HNC := Lib.hid (And.intro hn hc)
  clear hA hnil hn hc
  go_enter Try.func3, Try.ntmps3
  go_wp2_with (first
    | (go_at_call 7; go_loud (refine (New_any _).mono ?_; rintro e w1 ⟨rfl, hp1, hb1⟩; have H1 := Lib.hid (And.intro hp1 hb1); have hz1 := hp1.lt; clear hp1 hb1))
    | (go_at_call 8; go_loud (refine (fact_any _).mono ?_; rintro e w2 ⟨rfl, hb2⟩; obtain ⟨hc2, hf2⟩ := bcell hb2; have hz2 := hb2.size; simp at hz2; have h2b := (hb2.block w1.heap.size (by simp)).trans (heap_alloc_new w1 _); have H2 := Lib.hid (And.intro hb2 h2b); have c2b : (w2.alloc (.cells #[.slice none 0 0] 26)).cell? ⟨w1.heap.size, 0, none⟩ = some (.pointer (some ⟨w.heap.size, 0, none⟩)) := (World.cell?_alloc_lt w2 _ ⟨w1.heap.size, 0, none⟩ (by show w1.heap.size < _; omega)).trans (cell_of_row w2 w1.heap.size 0 _ 23 (0, 0) h2b); clear hb2 h2b))
    | (go_at_call 9; go_loud (refine (play_any 10 #[.pointer (some ⟨w1.heap.size, 0, none⟩), .pointer (some ⟨w2.heap.size, 0, none⟩)] enters10 w.heap.size w.heap.size (Nat.le_refl _) (InvK w1.heap.size w2.heap.size w.heap.size) (invK_step _ _ _) (keeps_yes w.heap.size w1.heap.size w2.heap.size w.heap.size (Nat.le_refl _)) A n c (min n 40) f (w2.alloc (.cells #[.slice none 0 0] 26)) (HA.out.below (((H1.out.2.trans (((Below.refl _ w1).alloc (Nat.le_refl _) _).mono (Nat.le_of_lt hz1))).trans (H2.out.1.mono (by simp; omega))).alloc (by omega) _)) HNC.out.1 HNC.out.2 HN.out rfl ⟨pr0, .slice none 0 0, .slice none 0 0, .slice none 0 0, 1, ((H1.out.1.below ((Below.refl _ _).alloc (Nat.le_refl _) _)).below H2.out.1).below ((Below.refl _ _).alloc (Nat.le_refl _) _), Wf.pr0, by omega, ⟨⟨fun x => by have := own_nil_iff x; omega, (Below.heap_alloc w2 _ w1.heap.size (by omega)).trans H2.out.2⟩, by omega, by omega, .slice none 0 0, [], heap_alloc_new w2 _, World.ownsRow_nil _ _ _ _, List.nil_prefix, Int.le_refl _, fun x => by have := own_nil_iff x; omega, fun k hk => by cases hk⟩, Below.refl _ _⟩).mono ?_; rintro e w3 ⟨rfl, p3, vp3, vs3, vw3, T3, _, _, _, _, hb3⟩)))
  go_ret
  exact ⟨rfl, (((H1.out.2.trans (((Below.refl _ w1).alloc (Nat.le_refl _) _).mono (Nat.le_of_lt hz1))).trans (H2.out.1.mono (by simp; omega))).alloc (by omega) _).trans hb3⟩

set_option maxRecDepth 100000 in
set_option maxHeartbeats 4000000 in
theorem Follows_any (A : Option Addr) (n c : Nat) (f : Nat → Int) (w : World) (hA : Sl w w.heap.size 1 A n (fun i => [.int .i64 (f i)])) (hn : n ≤ c) (hc : c ≤ maxLen) (hnil : A = none → n = 0 ∧ c = 0) :
    Calls Try.prog 4 #[.slice A n c] w fun e w' => e = .returned (.bool true) ∧ Below w.heap.size w w' := by
  have HA := Lib.hid hA
  have HN := Lib.hid hnil
  have HNC := Lib.hid (And.intro hn hc)
  clear hA hnil hn hc
  go_enter Try.func4, Try.ntmps4
  go_wp2_with (first
    | (go_at_call 7; go_loud (refine (New_any _).mono ?_; rintro e w1 ⟨rfl, hp1, hb1⟩; have H1 := Lib.hid (And.intro hp1 hb1); have hz1 := hp1.lt; clear hp1 hb1))
    | (go_at_call 8; go_loud (refine (fact_any _).mono ?_; rintro e w2 ⟨rfl, hb2⟩; obtain ⟨hc2, hf2⟩ := bcell hb2; have hz2 := hb2.size; simp at hz2; have h2b := (hb2.block w1.heap.size (by simp)).trans (heap_alloc_new w1 _); have H2 := Lib.hid (And.intro hb2 h2b); have hz12 : w1.heap.size ≠ w2.heap.size := (by omega); clear hb2 h2b))
    | (go_at_call 9; go_loud (refine (play_any 16 #[.pointer (some ⟨w1.heap.size, 0, none⟩)] enters16 w.heap.size w.heap.size (Nat.le_refl _) (InvF w1.heap.size w.heap.size) (invF_step _ _) (follows_yes w.heap.size w1.heap.size w.heap.size (Nat.le_refl _)) A n c (min n 40) f w2 (HA.out.below ((H1.out.2.trans (((Below.refl _ w1).alloc (Nat.le_refl _) _).mono (Nat.le_of_lt hz1))).trans (H2.out.1.mono (by simp; omega)))) HNC.out.1 HNC.out.2 HN.out rfl ⟨pr0, .slice none 0 0, .slice none 0 0, .slice none 0 0, 1, (H1.out.1.below ((Below.refl _ _).alloc (Nat.le_refl _) _)).below H2.out.1, Wf.pr0, by omega, ⟨fun x => by have := own_nil_iff x; omega, H2.out.2⟩, Below.refl _ _⟩).mono ?_; rintro e w3 ⟨rfl, p3, vp3, vs3, vw3, T3, _, _, _, _, hb3⟩)))
  go_ret
  exact ⟨rfl, ((H1.out.2.trans (((Below.refl _ w1).alloc (Nat.le_refl _) _).mono (Nat.le_of_lt hz1))).trans (H2.out.1.mono (by simp; omega))).trans hb3⟩
end Go.Proofs.Ythlmejkkdmfkhaa
