/- SeasonCounts: a copy of the inputs, their times cut to a range. -/
import Derived.Test.YtaebebpldkciiaaGreatDoorB2
namespace Go.Proofs.YtaebebpldkciiaaGreatDoor
open Go.RowKit

theorem CloneIn_info : (Tryz.prog.info? 62).map (fun i => (i.zero, i.size, i.bytes)) = some (some (.agg #[.int .i64 0, .int .i64 0, .string ByteArray.empty, .string ByteArray.empty, .string ByteArray.empty, .slice none 0 0, .int .i64 0, .int .i64 0, .bool false]), 9, 112) := by kernel_rfl

set_option maxHeartbeats 1000000 in
theorem CloneIn_any (A : Option Addr) (n c : Nat) (row : Nat → List Value) (w : World) (hA : Sl w w.heap.size 9 A n row) (hl : ∀ i, i < n → (row i).length = 9) (h1 : ∀ i, i < n → ∀ u ∈ row i, u.oneCell' = true)
    (hnil : A = none → n = 0) (hn : n ≤ maxLen) (hby : n * 112 ≤ 140737488355328) :
    Calls Tryz.prog 19 #[.slice A n c] w fun e w' => ∃ v, e = .returned v ∧ w'.ownsRow w.heap.size 62 9 v n (flatR row n) ∧ Below w.heap.size w w' := by
  cases A with
  | none =>
    obtain rfl := hnil rfl
    have hk := fun (W : World) => Lib.run_eql_slice_nil (P := Tryz.prog) W 28 62 none 0 c 0 0 Tryz.underlying28
    go_enter Tryz.func19, Tryz.ntmps19
    go_wp2
    go_ret
    exact ⟨_, rfl, World.ownsRow_nil _ _ _ _, Below.refl _ _⟩
  | some ad =>
    have hk := fun (W : World) => Lib.run_eql_slice_nil (P := Tryz.prog) W 28 62 (some ad) n c 0 0 Tryz.underlying28
    obtain ⟨i0, J0, J1, J2, J3⟩ := info_parts CloneIn_info
    have hbn : Below w.heap.size w (w.alloc (.cells #[] 62)) := (Below.refl _ _).alloc (Nat.le_refl _) _
    have hnews := Sl_news (by decide) (hA.below hbn) rfl hl
    have hlen := flatR_len n hl
    have hone : ∀ u ∈ flatR row n, u.oneCell' = true := fun u hu => by
      obtain ⟨i, hi, hu⟩ := flatR_mem hu
      exact h1 i hi u hu
    have HN := Lib.hid hnews
    have HL := Lib.hid hlen
    have HO := Lib.hid hone
    clear hnews hlen hone h1 hl
    go_enter Tryz.func19, Tryz.ntmps19
    go_wp2_with (at_builtin; refine wpList_append_own _ rfl (.tmp 5) (.tmp 6) 28 rfl w.heap.size 62 i0 _ 9 112 Tryz.underlying28 J0 J1 J2 J3 rfl (by decide) (.slice (some ⟨w.heap.size, 0, none⟩) 0 0) 0 [] rfl (World.ownsRow_made w #[] 0 (Nat.le_refl _) (by decide) rfl) ad n c (flatR row n) rfl HL.out HN.out HO.out (by omega) (by omega) (by simp) ?_; intro v' w' hown hg hni)
    go_ret
    refine ⟨_, rfl, ?_, hbn.grown hg hbn.size (fun k hk => by simp [Value.ownBlock] at hk; omega)⟩
    rw [Nat.zero_add, List.nil_append] at hown
    exact hown

/-- A number cut to a range. -/
def cutP (a lo hi : Int) : Int := lo + (if a.tmod (hi - lo + 1) < 0 then a.tmod (hi - lo + 1) + (hi - lo + 1) else a.tmod (hi - lo + 1))
theorem cutP_in (a lo hi : Int) (h2 : lo ≤ hi) : lo ≤ cutP a lo hi ∧ cutP a lo hi ≤ hi := by
  have := Int.tmod_lt_of_pos a (show 0 < hi - lo + 1 by omega)
  have := Int.lt_tmod_of_pos a (show 0 < hi - lo + 1 by omega)
  unfold cutP
  split <;> omega
theorem cl20 (a lo hi : Int) (h1 : -1000 ≤ lo) (h2 : lo ≤ hi) (h3 : hi ≤ 1000) (w : World) :
    Calls Tryz.prog 20 #[.int .i64 a, .int .i64 lo, .int .i64 hi] w fun e w' => e = .returned (.int .i64 (cutP a lo hi)) ∧ w' = w := by
  have k1 : IntKind.i64.wrap (hi - lo) = hi - lo := IntWalk.i64_in _ (by omega)
  have k2 : IntKind.i64.wrap (hi - lo + 1) = hi - lo + 1 := IntWalk.i64_in _ (by omega)
  have hc : cutP a lo hi = lo + (if a.tmod (hi - lo + 1) < 0 then a.tmod (hi - lo + 1) + (hi - lo + 1) else a.tmod (hi - lo + 1)) := rfl
  obtain ⟨m, hm⟩ : ∃ m, hi - lo + 1 = m := ⟨_, rfl⟩
  have hm0 : 0 < m ∧ m ≤ 2001 := by omega
  rw [hm] at hc
  obtain ⟨r, hr⟩ : ∃ r, a.tmod m = r := ⟨_, rfl⟩
  have hr1 : -m < r ∧ r < m := by
    have := Int.tmod_lt_of_pos a hm0.1
    have := Int.lt_tmod_of_pos a hm0.1
    omega
  have k3 : IntKind.i64.wrap r = r := IntWalk.i64_in _ (by omega)
  have k4 : IntKind.i64.wrap (r + m) = r + m := IntWalk.i64_in _ (by omega)
  have k5 : IntKind.i64.wrap (lo + r) = lo + r := IntWalk.i64_in _ (by omega)
  have k6 : IntKind.i64.wrap (lo + (r + m)) = lo + (r + m) := IntWalk.i64_in _ (by omega)
  have k7 : (m == 0) = false := by simp; omega
  have k8 : m ≠ 0 := by omega
  rw [hm] at k2
  rw [hr] at hc
  obtain ⟨z, hz⟩ : ∃ z, cutP a lo hi = z := ⟨_, rfl⟩
  rw [hz] at hc ⊢
  have HZ := Lib.hid hc
  clear hc hz
  go_enter Tryz.func20, Tryz.ntmps20
  by_cases h0 : r < 0
  · have e0 := decide_eq_true h0
    go_wp2
    go_ret
    have := HZ.out
    rw [if_pos h0] at this
    rw [this]
    exact ⟨rfl, rfl⟩
  · have e0 := decide_eq_false h0
    go_wp2
    go_ret
    have := HZ.out
    rw [if_neg (by omega)] at this
    rw [this]
    exact ⟨rfl, rfl⟩
def inP (p : Inp × Hd) : List Value := inV p.1 p.2
theorem inP_len (p : Inp × Hd) : (inP p).length = 9 := rfl
theorem inP_one (p : Inp × Hd) : ∀ u ∈ inP p, u.oneCell' = true := by
  intro u hu
  simp only [inP, inV, List.mem_cons, List.not_mem_nil, or_false] at hu
  rcases hu with rfl | rfl | rfl | rfl | rfl | rfl | rfl | rfl | rfl <;> rfl
theorem flatR_same {r r' : Nat → List Value} : ∀ (n : Nat), (∀ i, i < n → r i = r' i) → flatR r n = flatR r' n
  | 0, _ => rfl
  | n + 1, h => by rw [flatR_succ, flatR_succ, flatR_same n fun i hi => h i (by omega), h n (by omega)]
theorem in_set {W : World} {base g n c i : Nat} {l : List (Inp × Hd)} (h : W.ownsRow base 62 9 (.slice (some ⟨g, 0, none⟩) n c) n (rowsV inP l)) (hl : l.length = n) (hi : i < n) (j : Nat) (hj : j < 9) (u : Value) (x : Inp × Hd) (hx : (inP l[i]!).set j u = inP x) :
    (W.setCell ⟨g, i * 9 + j, none⟩ u).ownsRow base 62 9 (.slice (some ⟨g, 0, none⟩) n c) n (rowsV inP (l.set i x)) := by
  have := (h.stored (i * 9 + j) u).1
  rwa [rowsV_cell inP_len l i (by omega) j hj u x hx] at this
/-- An input, its time cut. -/
def cuI (x : Inp) : Inp := { x with time := cutP x.time 0 300 }
/-- The first k inputs of the copy have their times cut. -/
structure CutA (l : List Inp) (hs : List Hd) (base : Nat) (A : Option Addr) (m c k : Nat) (ps : List (Inp × Hd)) (w : World) : Prop where
  n : ps.length = m
  own : w.ownsRow base 62 9 (.slice A m c) m (rowsV inP ps)
  done : ∀ i, i < k → i < m → ps[i]! = (cuI l[i]!, hs[i]!)
  todo : ∀ i, k ≤ i → i < m → ps[i]! = (l[i]!, hs[i]!)
section
variable {l : List Inp} {hs : List Hd} {base : Nat} {A : Option Addr} {m c k : Nat} {ps : List (Inp × Hd)} {w w' : World}
theorem CutA.below (h : CutA l hs base A m c k ps w) (hb : Below w.heap.size w w') : CutA l hs base A m c k ps w' := ⟨h.n, own_below h.own hb (Nat.le_refl _), h.done, h.todo⟩
theorem CutA.at (h : CutA l hs base A m c k ps w) (h0 : 0 < m) : ∃ b, A = some ⟨b, 0, none⟩ ∧ base ≤ b ∧ b < w.heap.size ∧ (∀ j, w.frozen? ⟨b, j, none⟩ = false) ∧ ∀ i, i < m → ∀ j v, (inP ps[i]!)[j]? = some v → w.cell? ⟨b, i * 9 + j, none⟩ = some v := by
  rcases h.own.2 with ⟨_, hz⟩ | ⟨g, cap, cur, e, hb, hg, _⟩
  · omega
  · injection e with e
    subst e
    refine ⟨g, rfl, hb, (Array.getElem?_eq_some_iff.1 hg).1, fun j => frozen_of_row _ _ _ _ _ hg, fun i hi j v hj => ?_⟩
    obtain ⟨b, off, e, _, hr⟩ := (Sl_rows inP_len h.own h.n (by decide)) h0
    injection e with e
    injection e with e1 e2
    subst e1
    subst e2
    have := hr i hi j v
    simpa using this hj
theorem CutA.next {b : Nat} (h : CutA l hs base (some ⟨b, 0, none⟩) m c k ps w) (hk : k < m) : CutA l hs base (some ⟨b, 0, none⟩) m c (k + 1) (ps.set k (cuI l[k]!, hs[k]!)) (w.setCell ⟨b, k * 9 + 1, none⟩ (.int .i64 (cutP (l[k]!).time 0 300))) := by
  have hn := h.n
  have e1 : (ps.set k (cuI l[k]!, hs[k]!))[k]! = (cuI l[k]!, hs[k]!) := by
    rw [getElem!_pos _ k (by rw [List.length_set]; omega)]
    simp
  have e2 : ∀ i, i ≠ k → (ps.set k (cuI l[k]!, hs[k]!))[i]! = ps[i]! := fun i hi => by
    simp only [getElem!_def]
    rw [List.getElem?_set_ne (Ne.symm hi)]
  refine ⟨by rw [List.length_set]; exact hn, in_set h.own hn hk 1 (by decide) _ _ (by rw [h.todo k (Nat.le_refl _) hk]; rfl), fun i hi hm => ?_, fun i hi hm => ?_⟩
  · by_cases e : i = k
    · subst e
      exact e1
    · rw [e2 i e]
      exact h.done i (by omega) hm
  · rw [e2 i (by omega)]
    exact h.todo i (by omega) hm
/-- slices.Clone of the first m inputs. -/
theorem clone_cut {N n cA : Nat} {A A2 : Option Addr} {l : List Inp} {hs : List Hd} {w : World} (h : InsA N A n l hs w) (hN : N ≤ w.heap.size) {m c2 : Nat} (hm : m ≤ n) (h12 : m ≤ 12) (hA : 0 < m → A2 = A) (hnil : A = none → n = 0 ∧ cA = 0) :
    Calls Tryz.prog 19 #[.slice A2 m c2] w fun e w' => ∃ (A' : Option Addr) (c' : Nat) (ps : List (Inp × Hd)), e = .returned (.slice A' m c') ∧ CutA l hs w.heap.size A' m c' 0 ps w' ∧ Below w.heap.size w w' := by
  have hSl : Sl w w.heap.size 9 A2 m (fun i => inV l[i]! hs[i]!) := fun h0 => by
    obtain ⟨b, off, e, hb, hr⟩ := h.row (by omega)
    exact ⟨b, off, (hA h0).trans e, by omega, fun i hi => hr i (by omega)⟩
  refine (CloneIn_any A2 m c2 _ w hSl (fun _ _ => rfl) (fun i _ => inP_one (l[i]!, hs[i]!)) (fun e => ?_) (by unfold maxLen; omega) (by omega)).mono ?_
  · refine Nat.eq_zero_of_not_pos fun h0 => ?_
    have := hnil ((hA h0).symm.trans e)
    omega
  · rintro e w' ⟨v, rfl, ho, hb⟩
    obtain ⟨A', c', rfl⟩ := own_shape ho
    refine ⟨A', c', (List.range m).map fun i => (l[i]!, hs[i]!), rfl, ⟨by simp, ?_, fun i hi => absurd hi (by omega), fun i _ hi => ?_⟩, hb⟩
    · rw [rowsV_flat inP_len, show ((List.range m).map fun i => (l[i]!, hs[i]!)).length = m by simp]
      rw [flatR_same (r' := fun i => inV l[i]! hs[i]!) m fun i hi => ?_]
      · exact ho
      · rw [getElem!_pos _ i (by simpa using hi)]
        simp [inP]
    · rw [getElem!_pos _ i (by simpa using hi)]
      simp
/-- The copy as inputs. -/
theorem CutA.ins {N n : Nat} {A0 : Option Addr} (h : CutA l hs base A m c m ps w) (hI : InsA N A0 n l hs w) (hN : N ≤ w.heap.size) (hm : m ≤ n) : InsA w.heap.size A m ((List.range m).map fun i => cuI l[i]!) ((List.range m).map fun i => hs[i]!) w := by
  have e1 : ∀ i, i < m → ((List.range m).map fun i => cuI l[i]!)[i]! = cuI l[i]! := fun i hi => by
    rw [getElem!_pos _ i (by simpa using hi)]; simp
  have e2 : ∀ i, i < m → ((List.range m).map fun i => hs[i]!)[i]! = hs[i]! := fun i hi => by
    rw [getElem!_pos _ i (by simpa using hi)]; simp
  refine ⟨by simp, by simp, (Sl_rows inP_len h.own h.n (by decide)).congr fun i hi => ?_, fun i hi => ?_, fun i hi => ?_⟩
  · rw [e1 i hi, e2 i hi, h.done i hi hi]
    rfl
  · rw [e1 i hi, e2 i hi]
    have h1 := hI.tube i (by omega)
    exact ⟨h1.1, h1.2.more hN⟩
  · rw [e1 i hi]
    have h1 := hI.bd i (by omega)
    exact ⟨h1.call, h1.by_, h1.to_, h1.tube⟩
theorem cuts_le (m : Nat) (l : List Inp) (i : Nat) (hi : i < m) : ((((List.range m).map fun i => cuI l[i]!)[i]!).time) ≤ 300 := by
  rw [getElem!_pos _ i (by simpa using hi)]
  simp only [List.getElem_map, List.getElem_range]
  exact (cutP_in _ 0 300 (by decide)).2
theorem CutA.cap (h : CutA l hs base A m c k ps w) : (A = none → m = 0 ∧ c = 0) ∧ m ≤ c ∧ c ≤ maxLen := by
  rcases h.own.2 with ⟨e, hz⟩ | ⟨g, cap, cur, e, hb, hg, hc1, hc2, _⟩
  · injection e with e1 e2 e3
    subst e1 e3
    exact ⟨fun _ => ⟨hz, rfl⟩, by omega, by unfold maxLen; omega⟩
  · injection e with e1 e2 e3
    subst e1 e3
    exact ⟨fun e => (by cases e), hc1, hc2⟩
end
end Go.Proofs.YtaebebpldkciiaaGreatDoor
