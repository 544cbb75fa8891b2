/- The stack of the laws, round by round: the words. -/
import Derived.Test.YtjiofgfdfljgmaaG
import Derived.Test.YtjiofgfdfljgmaaA8
namespace Go.Proofs.Ytjiofgfdfljgmaa
open Go.RowKit

def strsV (l : List ByteArray) : List Value := l.map Value.string
theorem strsV_snoc (l : List ByteArray) (s : ByteArray) : strsV (l ++ [s]) = strsV l ++ [.string s] := by simp [strsV]

section
variable {g : Nat} {v v' vi vo : Value} {w w' : World}
theorem own_upd {e : TypeId} {sz n : Nat} {x : Value} {xs : List Value} (h : w.ownsRow (g + 1) e sz x n xs) (hu : Upd g v v' w w') (ha : ApartV x v) : w'.ownsRow (g + 1) e sz x n xs := by
  refine ⟨h.1, ?_⟩
  have hlt := h.lt
  rcases h.2 with hn | ⟨k, cap, cur, rfl, hb', hgg, rest⟩
  · exact .inl hn
  · refine .inr ⟨k, cap, cur, rfl, hb', ?_, rest⟩
    rw [hu.keep k (hlt k rfl).2 (by omega) (fun e => by
      rcases ha with h1 | h1 | h1
      · cases h1
      · rw [h1] at e; cases e
      · exact h1 e.symm)]
    exact hgg
theorem apart_upd {e : TypeId} {sz n : Nat} {x : Value} {xs : List Value} (h : w.ownsRow (g + 1) e sz x n xs) (hu : Upd g v v' w w') (ha : ApartV x v) : ApartV x v' := by
  rcases hu.own with e1 | ⟨k, e1, e2⟩
  · unfold ApartV at *
    rw [e1]; exact ha
  · cases hx : x.ownBlock with
    | none => exact .inl hx
    | some k' =>
      right; right
      rw [hx, e1]
      intro e3
      injection e3 with e3
      have := (h.lt k' hx).2
      omega
theorem StackAt.app {lo hi st now : Int} {ls : List Lv} {o : Obj} {e : TypeId} {sz n : Nat} {x : Value} {xs : List Value} (h : StackAt g lo hi st now v ls w) (hx : w.ownsRow (g + 1) e sz x n xs) (ha : ApartV x v) (hg : (w.alloc o).grownBy w' x.ownBlock) :
    StackAt g lo hi st now v ls w' := ⟨heap_app hx (Nat.lt_succ_self g) h.lt h.blk hg, own_app hx h.own ha hg⟩
end

structure St (w0 : World) (g j : Nat) (now : Int) (v : Value) (ls : List Lv) (ins outs : List ByteArray) (vi vo : Value) (wr : World) : Prop where
  stk : StackAt g 3000 7000 1000 now v ls wr
  oi : wr.ownsRow (g + 1) 9 1 vi ins.length (strsV ins)
  oo : wr.ownsRow (g + 1) 9 1 vo outs.length (strsV outs)
  a1 : ApartV vi vo
  a2 : ApartV vi v
  a3 : ApartV vo v
  good : Good ls now
  n0 : 0 ≤ now
  n1 : now ≤ j
  law : ins = outs ++ ls.map (·.1)
  li : ins.length ≤ j
  lo : outs.length ≤ j
  bel : Below w0.heap.size w0 wr
  g0 : w0.heap.size ≤ g

section
variable {w0 wr w1 w2 w3 : World} {g j : Nat} {now : Int} {v v2 vi vo : Value} {ls : List Lv} {ins outs : List ByteArray}
theorem St.below (h : St w0 g j now v ls ins outs vi vo wr) (hb : Below wr.heap.size wr w1) : St w0 g j now v ls ins outs vi vo w1 :=
  ⟨h.stk.below hb, own_below h.oi hb (Nat.le_refl _), own_below h.oo hb (Nat.le_refl _), h.a1, h.a2, h.a3, h.good, h.n0, h.n1, h.law, h.li, h.lo, bstep h.bel hb, h.g0⟩
theorem St.more (h : St w0 g j now v ls ins outs vi vo wr) : St w0 g (j + 1) now v ls ins outs vi vo wr :=
  ⟨h.stk, h.oi, h.oo, h.a1, h.a2, h.a3, h.good, h.n0, by have := h.n1; omega, h.law, by have := h.li; omega, by have := h.lo; omega, h.bel, h.g0⟩
theorem St.down (h : St w0 g j now v ls ins outs vi vo wr) (hu : Upd g v v wr w1) (hs : StackAt g 3000 7000 1000 j v (dnL 3000 1000 ls) w1) : St w0 g (j + 1) j v (dnL 3000 1000 ls) ins outs vi vo w1 :=
  ⟨hs, own_upd h.oi hu h.a2, own_upd h.oo hu h.a3, h.a1, h.a2, h.a3, h.good.down h.n1, by omega, by omega, by rw [dnL_calls]; exact h.law, by have := h.li; omega, by have := h.lo; omega, h.bel.trans (hu.below.mono h.g0), h.g0⟩
theorem St.enter (h : St w0 g j now v ls ins outs vi vo wr) (c : ByteArray) (hu : Upd g v v2 wr w2) (hs : StackAt g 3000 7000 1000 j v2 (ls ++ [(c, topH 3000 1000 ls, (j : Int))]) w2) (h7 : topH 3000 1000 ls ≤ 7000) {g3 cap3 : Nat}
    (hv3 : w3.ownsRow (g + 1) 9 1 (.slice (some ⟨g3, 0, none⟩) (ins.length + 1) cap3) (ins.length + 1) (strsV ins ++ [.string c])) (hg3 : (w2.alloc (.cells #[.string c] 9)).grownBy w3 vi.ownBlock) (hat : vi.ownBlock = some g3 ∨ g3 = w2.heap.size + 1) :
    St w0 g (j + 1) j v2 (ls ++ [(c, topH 3000 1000 ls, (j : Int))]) (ins ++ [c]) outs (.slice (some ⟨g3, 0, none⟩) (ins.length + 1) cap3) vo w3 := by
  have oi2 := own_upd h.oi hu h.a2
  have oo2 := own_upd h.oo hu h.a3
  have a2' := apart_upd h.oi hu h.a2
  have a3' := apart_upd h.oo hu h.a3
  have bel2 := h.bel.trans (hu.below.mono h.g0)
  have hlt := hs.lt
  refine ⟨hs.app oi2 a2' hg3, ?_, own_app oi2 oo2 h.a1 hg3, apart_app h.a1 oo2 hat, apart_app a2' hs.own hat, a3', h.good.push (by omega) h.n1 c h7, by omega, by omega, ?_, ?_, by have := h.lo; omega, ?_, h.g0⟩
  · rw [strsV_snoc, List.length_append, List.length_singleton]; exact hv3
  · rw [List.map_append, h.law, List.append_assoc]; rfl
  · rw [List.length_append, List.length_singleton]; have := h.li; omega
  · exact below_app bel2 bel2.size oi2 (by have := h.g0; omega) hg3
theorem St.leave {x : Lv} (h : St w0 g j now v (x :: ls) ins outs vi vo wr) (hu : Upd g v v2 wr w2) (hs : StackAt g 3000 7000 1000 j v2 ls w2) {g3 cap3 : Nat}
    (hv3 : w3.ownsRow (g + 1) 9 1 (.slice (some ⟨g3, 0, none⟩) (outs.length + 1) cap3) (outs.length + 1) (strsV outs ++ [.string x.1])) (hg3 : (w2.alloc (.cells #[.string x.1] 9)).grownBy w3 vo.ownBlock) (hat : vo.ownBlock = some g3 ∨ g3 = w2.heap.size + 1) :
    St w0 g (j + 1) j v2 ls ins (outs ++ [x.1]) vi (.slice (some ⟨g3, 0, none⟩) (outs.length + 1) cap3) w3 := by
  have oi2 := own_upd h.oi hu h.a2
  have oo2 := own_upd h.oo hu h.a3
  have a2' := apart_upd h.oi hu h.a2
  have a3' := apart_upd h.oo hu h.a3
  have bel2 := h.bel.trans (hu.below.mono h.g0)
  have hlt := hs.lt
  refine ⟨hs.app oo2 a3' hg3, own_app oo2 oi2 h.a1.symm hg3, ?_, (apart_app h.a1.symm oi2 hat).symm, a2', apart_app a3' hs.own hat, h.good.pop.later h.n1, by omega, by omega, ?_, by have := h.li; omega, ?_, ?_, h.g0⟩
  · rw [strsV_snoc, List.length_append, List.length_singleton]; exact hv3
  · rw [h.law]; simp
  · rw [List.length_append, List.length_singleton]; have := h.lo; omega
  · exact below_app bel2 bel2.size oo2 (by have := h.g0; omega) hg3
end
end Go.Proofs.Ytjiofgfdfljgmaa
