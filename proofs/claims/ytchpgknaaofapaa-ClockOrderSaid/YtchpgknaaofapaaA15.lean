/- Package clock: Order. -/
import Derived.Test.YtchpgknaaofapaaA14
import Derived.Test.YtchpgknaaofapaaShO
namespace Go.Proofs.Ytchpgknaaofapaa
open Go.RowKit Go.Sort

theorem below_sort {α : Type} [Inhabited α] (enc : α → Value) (w : World) (blk off n B : Nat) (d : Array α) (os : Array Obj) (hB : B ≤ blk) (hBw : B ≤ w.heap.size) : Below B w (sortWorld enc w blk off n d os) := by
  refine ⟨rfl, rfl, rfl, ?_, fun k hk => ?_⟩
  · show w.heap.size ≤ ((w.heap.modify blk (onCells (putCells enc off d))) ++ os).size
    simp
  · show ((w.heap.modify blk (onCells (putCells enc off d))) ++ os)[k]? = w.heap[k]?
    have h1 : blk ≠ k := by omega
    have h2 : k < w.heap.size := by omega
    rw [Array.getElem?_append_left (by simpa using h2), Array.getElem?_modify, if_neg h1]

/-- The events' places. -/
abbrev Pl (M : Nat) := Fin (M + 1)
def encP {M : Nat} (i : Pl M) : Value := .int .i64 (i.val : Int)
def cfP (l : List Ev) {M : Nat} (i k : Pl M) : Int := cfO l i.val k.val
theorem swo_cf (l : List Ev) {M : Nat} : SWO (ltOf (cfP l (M := M))) where
  irrefl x := by unfold ltOf cfP cfO orI; simp
  trans x y z h1 h2 := by
    unfold ltOf cfP cfO orI at *
    simp only [decide_eq_true_eq] at *
    split at h1 <;> split at h2 <;> split <;> omega
  ntrans x y z h1 h2 := by
    unfold ltOf cfP cfO orI at *
    simp only [decide_eq_false_iff_not] at *
    split at h1 <;> split at h2 <;> split <;> omega

theorem eg24 : ∀ (args : Array Value) (w : World), (callFunc 24 args).run Try.prog w = .ok (.enter 24 args) w := enters_of Try.func24 (by kernel_rfl) rfl

theorem cmp_lays (l : List Ev) {M : Nat} (B1 B2 a1 b off c1 c2 blk base : Nat) (W : World) (h1 : W.cell? ⟨B1, 0, none⟩ = some (.slice (some ⟨a1, 0, none⟩) (M + 1) c1)) (h2 : W.cell? ⟨B2, 0, none⟩ = some (.slice (some ⟨b, off, none⟩) (M + 1) c2))
    (hn : ∀ i, i < M + 1 → W.cell? ⟨a1, i, none⟩ = some (.int .i64 (LvE l i))) (he : ∀ i, i < M + 1 → W.cell? ⟨b, off + i * 3, none⟩ = some (.int .i64 l[i]!.1))
    (hL : ∀ i, i < M + 1 → 0 ≤ LvE l i ∧ LvE l i ≤ 1000) (hS : ∀ i, i < M + 1 → 0 ≤ l[i]!.1 ∧ l[i]!.1 ≤ 8) (q1 : B1 < base) (q2 : B2 < base) (q3 : a1 < base) (q4 : b < base) (q5 : base ≤ blk) (q6 : base ≤ W.heap.size) :
    CmpLays1 Try.prog 24 #[.pointer (some ⟨B1, 0, none⟩), .pointer (some ⟨B2, 0, none⟩)] (encP (M := M)) (cfP l) blk 0 (M + 1) W := fun m os dk _ x y => by
  have hb := below_sort (encP (M := M)) W blk 0 m base dk os q5 q6
  exact cmp_any l B1 B2 a1 b off (M + 1) c1 c2 x.val y.val _ ((hb.cell (p := ⟨B1, 0, none⟩) q1).trans h1) ((hb.cell (p := ⟨B2, 0, none⟩) q2).trans h2)
    (fun i hi => (hb.cell (p := ⟨a1, i, none⟩) q3).trans (hn i hi)) (fun i hi => (hb.cell (p := ⟨b, off + i * 3, none⟩) q4).trans (he i hi)) x.isLt y.isLt hL hS

/-- The order that is found: a permutation of the places, by the comparison. -/
structure Sorted (l : List Ev) (N : Nat) (p : Nat → Nat) : Prop where
  perm : ((List.range N).map p).Perm (List.range N)
  sorted : ∀ i j, i < j → j < N → ¬ cfO l (p j) (p i) < 0

theorem sorted_of (l : List Ev) {M : Nat} {d' : Array (Pl M)} (hp : PermIn 0 (M + 1) (Array.ofFn (fun i : Pl M => i)) d') (hs : SortedIn (ltOf (cfP l)) 0 (M + 1) d') : Sorted l (M + 1) (fun i => d'[i]!.val) := by
  obtain ⟨hsz, _, hperm⟩ := hp
  have hsz' : d'.size = M + 1 := by rw [hsz]; simp
  refine ⟨?_, fun i j hij hj => ?_⟩
  · have e1 : (List.range (M + 1)).map (fun i => d'[i]!.val) = d'.toList.map Fin.val := by
      apply List.ext_getElem
      · simp [hsz']
      · intro i h1 h2
        have hi : i < d'.size := by simp at h1; omega
        simp [getElem!_pos d' i hi]
    have e2 : List.range (M + 1) = (Array.ofFn (fun i : Pl M => i)).toList.map Fin.val := by
      apply List.ext_getElem
      · simp
      · intro i h1 h2
        simp only [List.getElem_range, Array.toList_ofFn, List.map_ofFn, List.getElem_ofFn, Function.comp]
    rw [e1]
    conv => rhs; rw [e2]
    have h3 : d'.extract 0 (M + 1) = d' := by
      apply Array.ext
      · simp [hsz']
      · intro i _ _; simp
    have h4 : (Array.ofFn (fun i : Pl M => i)).extract 0 (M + 1) = Array.ofFn (fun i : Pl M => i) := by
      apply Array.ext
      · simp
      · intro i _ _; simp
    rw [h3, h4] at hperm
    exact hperm.map _
  · have := hs i j (Nat.zero_le _) hij hj
    unfold ltOf cfP at this
    simpa using this
end Go.Proofs.Ytchpgknaaofapaa
