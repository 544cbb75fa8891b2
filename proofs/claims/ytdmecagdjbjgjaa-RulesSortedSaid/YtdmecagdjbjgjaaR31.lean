/- The rule closed: its test. -/
import Derived.Test.YtdmecagdjbjgjaaR30
import Derived.Test.YtdmecagdjbjgjaaR16
namespace Go.Proofs.Ytdmecagdjbjgjaa
open Go.RowKit Go.Shelf Go.Proofs

/-- A valid volume that lies in memory. -/
abbrev Vok (w : World) := {v : Vo // Sl w w.heap.size 2 v.A v.n (ptRow v.F) ∧ volE v.F v.n v.lo v.hi = 0}

set_option maxRecDepth 100000 in
set_option maxHeartbeats 4000000 in
theorem pred50 (t : Tr) (B : Nat) (w : World) (hB : B < w.heap.size) (hg : w.heap[B]? = some (.cells (trL t).toArray 41 (0, 0))) (ht : trkOk t) :
    PredBelow Try.prog 50 #[.pointer (some ⟨B, 0, none⟩)] (fun x : Vok w => .agg (voL x.1).toArray) (fun x => hasB x.1 (t.x, t.y) t.h) w := fun W x hb => by
  have g0 := (hb.block B hB).trans hg
  have c3 : W.cell? ⟨B, 3, none⟩ = some (.int .i64 t.x) := cell_of_row W B 3 _ 41 (0, 0) g0
  have c4 : W.cell? ⟨B, 4, none⟩ = some (.int .i64 t.y) := cell_of_row W B 4 _ 41 (0, 0) g0
  have c7 : W.cell? ⟨B, 7, none⟩ = some (.int .i64 t.h) := cell_of_row W B 7 _ 41 (0, 0) g0
  have hBW : B < W.heap.size := Nat.lt_of_lt_of_le hB hb.size
  have hne : B ≠ W.heap.size := by omega
  have hx := x.2
  obtain ⟨v, hv⟩ := x
  dsimp only at hx
  show Calls _ _ _ _ fun e w' => e = .returned (.bool (hasB v (t.x, t.y) t.h)) ∧ _
  have HH := Lib.hid (fun V (h : Below w.heap.size w V) => Has_any v (t.x, t.y) t.h V ((hx.1.below h).more h.size) hx.2 ⟨ht.1, ht.2.1⟩ ht.2.2)
  generalize hasB v (t.x, t.y) t.h = r at *
  obtain ⟨A, n, c, F, lo, hi⟩ := v
  have HB := Lib.hid hb
  generalize t.x = x1 at *
  generalize t.y = x2 at *
  generalize t.h = x3 at *
  dsimp only at HH
  show Calls Try.prog 50 #[.agg #[.slice A n c, .int .i64 lo, .int .i64 hi], .pointer (some ⟨B, 0, none⟩)] W _
  clear g0 hg hb hx hv ht
  go_enter Try.func50, Try.ntmps50
  go_wp2_with (go_at_call 51; go_loud (refine (HH.out _ (HB.out.alloc HB.out.size _)).mono ?_; rintro E w2 ⟨rfl, hb2⟩; have HB2 := Lib.hid ((HB.out.alloc HB.out.size _).trans (hb2.mono (by simp; have := HB.out.size; omega))); clear hb2))
  go_ret
  exact ⟨rfl, HB2.out⟩

def closedB (s : Sc) (x : Tr) : Bool := (List.range s.m).any fun i => hasB (s.V i) (x.x, x.y) x.h

set_option maxHeartbeats 4000000 in
theorem vols_any (A : Option Addr) (m c : Nat) (V : Nat → Vo) (t : Tr) (B : Nat) (w : World) (hA : Sl w w.heap.size 3 A m (fun i => voL (V i))) (hP : ∀ i, i < m → Sl w w.heap.size 2 (V i).A (V i).n (ptRow (V i).F)) (hv : ∀ i, i < m → voE V i = 0) (hn : m ≤ 100) (ht : trkOk t) (hB : B < w.heap.size) (hg : w.heap[B]? = some (.cells (trL t).toArray 41 (0, 0))) :
    Calls Try.prog 49 #[.slice A m c, .func (.func 50) #[] #[.pointer (some ⟨B, 0, none⟩)]] w fun e w' => e = .returned (.bool ((List.range m).any fun i => hasB (V i) (t.x, t.y) t.h)) ∧ Below w.heap.size w w' := by
  rcases Nat.eq_zero_or_pos m with rfl | hn0
  · have h0 : ∀ (a : Option Addr) (W : World), Calls Try.prog 64 #[.slice a 0 c, .func (.func 50) #[] #[.pointer (some ⟨B, 0, none⟩)]] W fun e w' => e = .returned (.int .i64 (-1)) ∧ w' = W := fun a W => by
      go_enter Try.func64, Try.ntmps64
      go_wp2
      go_loopw [5, 8] (fun _ i wr => i = .int .i64 0 ∧ wr = W) (fun _ _ _ => 1)
      case atStart => exact ⟨rfl, rfl⟩
      case round =>
        obtain ⟨rfl, rfl⟩ := hrel
        go_wp2
        go_ret
        exact ⟨rfl, rfl⟩
    have H0 := Lib.hid h0
    clear h0 hA hg hP hv
    go_enter Try.func49, Try.ntmps49
    go_wp2_with (go_at_call 64; go_loud (refine (H0.out _ _).mono ?_; rintro e w' ⟨rfl, rfl⟩))
    go_ret
    exact ⟨rfl, Below.refl _ _⟩
  · obtain ⟨bb, off, rfl, hb, hr⟩ := hA hn0
    have eg : ∀ args w, (callFunc 50 args).run Try.prog w = .ok (.enter 50 args) w := enters_of Try.func50 (by kernel_rfl) rfl
    haveI : Inhabited (Vok w) := ⟨⟨V 0, hP 0 hn0, hv 0 hn0⟩⟩
    have hcon := AnyQ.slices_ContainsFunc Try.l49 3 Try.isAgg79 Try.sizeOf79 (fun x : Vok w => voL x.1) (fun _ => rfl) (fun x => hasB x.1 (t.x, t.y) t.h) 50 #[.pointer (some ⟨B, 0, none⟩)] eg bb off m c (List.ofFn fun i : Fin m => (⟨V i, hP i i.2, hv i i.2⟩ : Vok w)) w
      (pred50 t B w hB hg ht) (by simp) (by omega) hb (fun j hj i v hi => hr j (by simpa using hj) i v (by simpa [show j < m from by simpa using hj] using hi))
    rw [List.take_of_length_le (by simp)] at hcon
    have e : ((List.ofFn fun i : Fin m => (⟨V i, hP i i.2, hv i i.2⟩ : Vok w)).any fun x => hasB x.1 (t.x, t.y) t.h) = ((List.range m).any fun i => hasB (V i) (t.x, t.y) t.h) := by
      rw [Bool.eq_iff_iff, List.any_eq_true, List.any_eq_true]
      constructor
      · rintro ⟨x, hx, hh⟩
        obtain ⟨i, rfl⟩ := (List.mem_ofFn).1 hx
        exact ⟨i, List.mem_range.2 i.2, hh⟩
      · rintro ⟨i, hi, hh⟩
        have hi := List.mem_range.1 hi
        exact ⟨⟨V i, hP i hi, hv i hi⟩, (List.mem_ofFn).2 ⟨⟨i, hi⟩, rfl⟩, hh⟩
    rw [e] at hcon
    exact hcon

set_option maxRecDepth 100000 in
set_option maxHeartbeats 4000000 in
theorem closed1_any (s : Sc) (x : Tr) (w : World) (hS : s.at_ w w.heap.size) (hc : checkE s = 0) (hx : trkOk x) :
    Calls Try.prog 48 #[s.val, trV x] w fun e w' => e = .returned (.bool (closedB s x)) ∧ Below w.heap.size w w' := by
  have hz := checkE_zero hc
  obtain ⟨w1, hw1⟩ : ∃ V, w.alloc (.cells #[.int .i64 s.tm, .slice s.A s.n s.c, .slice s.B s.m s.d] 25) = V := ⟨_, rfl⟩
  obtain ⟨w2, hw2⟩ : ∃ V, w1.alloc (.cells (trL x).toArray 41) = V := ⟨_, rfl⟩
  have hb1 : Below w.heap.size w w1 := by rw [← hw1]; exact (Below.refl _ _).alloc (Nat.le_refl _) _
  have hb2 : Below w1.heap.size w1 w2 := by rw [← hw2]; exact (Below.refl _ _).alloc (Nat.le_refl _) _
  have hs1 : w1.heap.size = w.heap.size + 1 := by rw [← hw1]; simp
  have hs2 : w2.heap.size = w.heap.size + 1 + 1 := by rw [← hw2]; simp [hs1]
  have hb12 := hb1.trans (hb2.mono hb1.size)
  have hyg : w2.heap[w.heap.size]? = some (.cells #[.int .i64 s.tm, .slice s.A s.n s.c, .slice s.B s.m s.d] 25 (0, 0)) := (hb2.block w.heap.size (by omega)).trans (by rw [← hw1]; exact heap_alloc_new _ _)
  have hyc : w2.heap[w1.heap.size]? = some (.cells (trL x).toArray 41 (0, 0)) := by rw [← hw2]; exact heap_alloc_new _ _
  have hS2 := hS.step hb12
  have HCV := Lib.hid (vols_any s.B s.m s.d s.V x w1.heap.size w2 hS2.2.2.1 hS2.2.2.2 hz.2.2.2.2 (by omega) hx (by omega) hyc)
  have hm : (s.m : Int) ≤ 12 := by omega
  have HR : Hid (closedB s x = (List.range s.m).any fun i => hasB (s.V i) (x.x, x.y) x.h) := Lib.hid rfl
  generalize closedB s x = r at *
  rw [← HR.out] at HCV
  have c2 : w2.cell? ⟨w.heap.size, 2, none⟩ = some (.slice s.B s.m s.d) := cell_of_row w2 _ 2 _ 25 (0, 0) hyg
  have HB := Lib.hid hb12
  unfold trL at hw2
  unfold Sc.val trV
  generalize s.B = B at *
  generalize s.m = m at *
  generalize s.d = d at *
  generalize s.tm = tm at *
  generalize s.A = A at *
  generalize s.n = n at *
  generalize s.c = c at *
  clear hS hS2 hz hyg hyc hb1 hb2 hb12 hs1 hs2 HR hc hx
  obtain ⟨g, hg⟩ : ∃ g, w.heap.size = g := ⟨_, rfl⟩
  obtain ⟨k, hk⟩ : ∃ k, w1.heap.size = k := ⟨_, rfl⟩
  rw [hg] at c2
  rw [hk] at HCV
  have HG := Lib.hid hg
  go_enter Try.func48, Try.ntmps48
  go_wp2_with (go_at_call 49; go_loud (refine HCV.out.mono ?_; rintro E w4 ⟨rfl, hb4⟩; have HB4 := Lib.hid (HB.out.trans (hb4.mono HB.out.size)); clear hb4))
  go_ret
  exact ⟨rfl, by first | exact HB4.out | (rw [← HG.out]; exact HB4.out)⟩
end Go.Proofs.Ytdmecagdjbjgjaa
