/- Package contact: Tune. -/
import Derived.Test.YtjlbhifkhbpddaaA1
import Derived.Test.YtjlbhifkhbpddaaUpd
import Derived.StillTailTactics
import Derived.Deep.RegionHeld3
namespace Go.Proofs.Ytjlbhifkhbpddaa
open Go.RowKit

def putC (l : List Cs) (x : Cs) : List Cs := if hasC l x.1 = true then l.set (lowC l x.1) x else l.take (lowC l x.1) ++ x :: l.drop (lowC l x.1)
def TuneP (g : Nat) (v : Value) (l : List Cs) (x : Cs) (w : World) (e : Ending) (w' : World) : Prop :=
  ∃ code v' l', e = .returned (.int .i64 code) ∧ RadioAt g v' l' w' ∧ Upd g v v' w w' ∧ (code = 0 → (validF x.2.1 = true ∧ wrongT x.2.2 = false) ∧ l' = putC l x) ∧ (code ≠ 0 → l' = l)

theorem Upd.of_below {g : Nat} {v : Value} {w w' : World} (hg : g ≤ w.heap.size) (hb : Below w.heap.size w w') : Upd g v v w w' := ⟨hb.mono hg, fun k hk _ _ => hb.block k hk, .inl rfl⟩

/-- A contact is written over. -/
theorem RadioAt.put {g : Nat} {b c : Nat} {l : List Cs} {W : World} (h : RadioAt g (.slice (some ⟨b, 0, none⟩) l.length c) l W) (i : Nat) (hi : i < l.length) (x : Cs) :
    RadioAt g (.slice (some ⟨b, 0, none⟩) l.length c) (l.set i x) (W.setCells b (i * 3) (csV x)) ∧ Upd g (.slice (some ⟨b, 0, none⟩) l.length c) (.slice (some ⟨b, 0, none⟩) l.length c) W (W.setCells b (i * 3) (csV x)) := by
  have ho := own_put h.own i hi (csV_len x)
  rw [rowsV_put csV_len l i hi x] at ho
  have hg := setCells_grown b (csV x) (i * 3) W
  have hgb := (h.own.lt b rfl).1
  refine ⟨⟨(hg.block g h.lt (fun e => by injection e with e; omega)).trans h.blk, by simpa using ho⟩, ?_⟩
  exact ⟨(Below.refl g W).grown hg (Nat.le_of_lt h.lt) (fun k hk => by injection hk with hk; omega), fun k hk _ h2 => hg.block k hk (fun e => h2 e.symm), .inl rfl⟩

/-- A contact has been put in between. -/
theorem RadioAt.ins {g g3 c3 : Nat} {v : Value} {l : List Cs} {W w3 : World} (h : RadioAt g v l W) (i : Nat) (hi : i ≤ l.length) (x : Cs) (o : Obj)
    (hown : w3.ownsRow (g + 1) 27 3 (.slice (some ⟨g3, 0, none⟩) (l.length + 1) c3) (l.length + 1) ((css l).take (i * 3) ++ csV x ++ (css l).drop (i * 3))) (hgr : (W.alloc o).grownBy w3 v.ownBlock) (hat : v.ownBlock = some g3 ∨ g3 = W.heap.size + 1) :
    RadioAt g (.slice (some ⟨g3, 0, none⟩) (l.length + 1) c3) (l.take i ++ x :: l.drop i) (w3.setCell ⟨g, 0, none⟩ (.slice (some ⟨g3, 0, none⟩) (l.length + 1) c3)) ∧
      Upd g v (.slice (some ⟨g3, 0, none⟩) (l.length + 1) c3) W (w3.setCell ⟨g, 0, none⟩ (.slice (some ⟨g3, 0, none⟩) (l.length + 1) c3)) := by
  rw [rowsV_ins csV_len l i hi x] at hown
  have hlen : (l.take i ++ x :: l.drop i).length = l.length + 1 := by simp; omega
  have hb := heap_app h.own (Nat.lt_succ_self g) h.lt h.blk hgr
  have hs := heap_setCell_same w3 g 0 _ 41 (.slice (some ⟨g3, 0, none⟩) (l.length + 1) c3) hb
  refine ⟨⟨by simpa using hs, ?_⟩, ?_, fun k hk h1 h2 => ?_, ?_⟩
  · rw [hlen]
    exact hown.kept (grown_setCell _ _ _ _) (own_ne hown (Nat.lt_succ_self g))
  · exact ((((Below.refl g W).alloc (Nat.le_of_lt h.lt) o).grown hgr (by simp; have := h.lt; omega) (fun k hk => by have := (h.own.lt k hk).1; omega))).setCell (p := ⟨g, 0, none⟩) (Nat.le_refl _) _
  · rw [heap_setCell_other _ _ _ _ h1, hgr.block k (by simp; omega) (fun e => h2 e.symm)]
    exact Below.heap_alloc W o k hk
  · rcases hat with e | e
    · exact .inl e.symm
    · exact .inr ⟨g3, rfl, by omega⟩

set_option maxRecDepth 100000 in
set_option maxHeartbeats 4000000 in
theorem Tune_no {g : Nat} {v : Value} {l : List Cs} {w : World} (h : RadioAt g v l w) (hs : SortedC l) (hn : l.length ≤ 20) (x : Cs) (hsz : x.1.size ≤ maxLen)
    (hbad : nameB x.1 = false ∨ validF x.2.1 = false ∨ wrongT x.2.2 = true) :
    Calls Try.prog 7 #[.pointer (some ⟨g, 0, none⟩), .string x.1, .int .i64 x.2.1, .int .i64 x.2.2] w (TuneP g v l x w) := by
  have HH := Lib.hid h
  have hF := find_any h hs (by omega) x.1
  obtain ⟨cl, f, t⟩ := x
  dsimp only at *
  have HFd := Lib.hid hF
  have tok1 : True := trivial
  clear h hF
  generalize hlow : lowC l cl = lo at *
  cases hnm : nameB cl with
  | false =>
    have HNM := Lib.hid hnm
    clear hbad hnm hlow hs
    go_enter Try.func7, Try.ntmps7
    go_wp2_with (first
      | (go_at_call 15; go_loud (refine HFd.out.mono ?_; rintro e w1 ⟨rfl, hb1⟩))
      | (go_at_call 16; go_loud (refine (Name_any cl _ hsz).mono ?_; rintro e w2 ⟨he2, hb2⟩; rw [HNM.out] at he2; subst he2)))
    go_ret
    exact ⟨6, v, l, rfl, HH.out.below (bstep hb1 hb2), Upd.of_below (Nat.le_of_lt HH.out.lt) (bstep hb1 hb2), fun h => by omega, fun _ => rfl⟩
  | true =>
    have HNM := Lib.hid hnm
    cases hv : validF f with
    | false =>
      have HV := Lib.hid hv
      clear hbad hnm hv hlow hs
      go_enter Try.func7, Try.ntmps7
      go_wp2_with (first
        | (go_at_call 15; go_loud (refine HFd.out.mono ?_; rintro e w1 ⟨rfl, hb1⟩))
        | (go_at_call 16; go_loud (refine (Name_any cl _ hsz).mono ?_; rintro e w2 ⟨he2, hb2⟩; rw [HNM.out] at he2; subst he2))
        | (go_at_call 6; go_loud (refine (Valid_any f _).mono ?_; rintro e w3 ⟨he3, rfl⟩; rw [HV.out] at he3; subst he3)))
      go_ret
      exact ⟨4, v, l, rfl, HH.out.below (bstep hb1 hb2), Upd.of_below (Nat.le_of_lt HH.out.lt) (bstep hb1 hb2), fun h => by omega, fun _ => rfl⟩
    | true =>
      have HV := Lib.hid hv
      have hwr : wrongT t = true := by
        rcases hbad with h | h | h
        · rw [h] at hnm; cases hnm
        · rw [h] at hv; cases hv
        · exact h
      have HW := Lib.hid hwr
      clear hbad hnm hv hlow hwr hs
      go_enter Try.func7, Try.ntmps7
      go_wp2_with (first
        | (go_at_call 15; go_loud (refine HFd.out.mono ?_; rintro e w1 ⟨rfl, hb1⟩))
        | (go_at_call 16; go_loud (refine (Name_any cl _ hsz).mono ?_; rintro e w2 ⟨he2, hb2⟩; rw [HNM.out] at he2; subst he2))
        | (go_at_call 6; go_loud (refine (Valid_any f _).mono ?_; rintro e w3 ⟨he3, rfl⟩; rw [HV.out] at he3; subst he3))
        | (go_at_call 17; go_loud (refine (wrong_any t _).mono ?_; rintro e w4 ⟨he4, rfl⟩; rw [HW.out] at he4; subst he4)))
      go_ret
      exact ⟨4, v, l, rfl, HH.out.below (bstep hb1 hb2), Upd.of_below (Nat.le_of_lt HH.out.lt) (bstep hb1 hb2), fun h => by omega, fun _ => rfl⟩
end Go.Proofs.Ytjlbhifkhbpddaa
