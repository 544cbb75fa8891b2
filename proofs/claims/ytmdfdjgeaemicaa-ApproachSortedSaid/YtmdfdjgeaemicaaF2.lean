/- Package approach: slices.SortFunc with the closure of ApproachSorted; slices.Max. -/
import Derived.Test.YtmdfdjgeaemicaaF1
import Derived.Test.YtmdfdjgeaemicaaRw
import Derived.Test.YtmdfdjgeaemicaaShT
import Derived.Shelf.SlSortCmp.InsertionK
namespace Go.Proofs.Ytmdfdjgeaemicaa
open Go.RowKit Go.Sort

section
variable {α : Type} [Inhabited α] (enc : α → List Value) (k : Nat)
theorem below_sortK (w : World) (blk off m : Nat) (d : Array α) (os : Array Obj) (B : Nat) (hB : B ≤ blk) (hBw : B ≤ w.heap.size) : Below B w (sortWorldK enc k w blk off m d os) := by
  refine ⟨rfl, rfl, rfl, ?_, fun j hj => ?_⟩
  · show w.heap.size ≤ ((w.heap.modify blk (onCells (putCells id off (flatK enc k d)))) ++ os).size
    simp
  · show ((w.heap.modify blk (onCells (putCells id off (flatK enc k d)))) ++ os)[j]? = w.heap[j]?
    have h1 : blk ≠ j := by omega
    have h2 : j < w.heap.size := by omega
    rw [Array.getElem?_append_left (by simpa using h2), Array.getElem?_modify, if_neg h1]
variable {enc} {k}
theorem holdsK_own {w : World} {base n c b : Nat} {e : TypeId} {l : List α} (hk : ∀ x, (enc x).length = k) (h0 : 0 < k) (h : w.ownsRow base e k (.slice (some ⟨b, 0, none⟩) n c) n (rowsV enc l)) (hn : l.length = n) : HoldsK enc k w b 0 l.toArray := fun j hj => by
  have hj : j < l.length * k := by simpa using hj
  have h3 : j / k < l.length := (Nat.div_lt_iff_lt_mul h0).2 hj
  have h4 := Nat.mod_lt j h0
  have e1 : j / k * k + j % k = j := Nat.div_add_mod' j k
  have g1 := rowsV_at hk l (j / k) h3 (j % k) h4
  rw [e1] at g1
  rw [Nat.zero_add]
  refine ⟨?_, h.frozenAt j⟩
  rw [h.cellAt j (by subst hn; exact hj), g1, get_flatK _ _ _ j (by simpa using hj), getElem!_pos l.toArray (j / k) (by simpa using h3)]
  simp only [List.getElem_toArray, id]
  rw [List.getElem?_eq_getElem (by rw [hk]; exact h4), getElem!_pos _ _ (by rw [hk]; exact h4)]
theorem Sl_holdsK {w : World} {n b : Nat} {d : Array α} (hk : ∀ x, (enc x).length = k) (h : HoldsK enc k w b 0 d) (hn : d.size = n) (hb : b < w.heap.size) : Sl w w.heap.size k (some ⟨b, 0, none⟩) n (fun i => enc d.toList[i]!) := fun _ => by
  refine ⟨b, 0, rfl, hb, fun i hi j v hj => ?_⟩
  have hjk : j < k := by rw [← hk d.toList[i]!]; exact (List.getElem?_eq_some_iff.1 hj).1
  have hlt : i * k + j < d.size * k := by
    have h2 : (i + 1) * k ≤ d.size * k := Nat.mul_le_mul_right k (by omega)
    rw [Nat.add_mul, Nat.one_mul] at h2
    omega
  have h1 := (h (i * k + j) (by simpa using hlt)).1
  have d1 : (i * k + j) / k = i := by rw [Nat.mul_comm, Nat.mul_add_div (by omega), Nat.div_eq_of_lt hjk, Nat.add_zero]
  have d2 : (i * k + j) % k = j := by rw [Nat.mul_comm, Nat.mul_add_mod, Nat.mod_eq_of_lt hjk]
  rw [get_flatK _ _ _ _ hlt, d1, d2] at h1
  rw [Nat.zero_add] at h1 ⊢
  rw [h1]
  have hi' : i < d.size := by omega
  have hj : (enc d.toList[i]!)[j]? = some v := hj
  rw [getElem!_pos d.toList i (by simpa using hi')] at hj
  simp only [Array.getElem_toList] at hj
  simp only [id]
  rw [getElem!_pos d i hi', getElem!_pos (enc d[i]) j (by rw [hk]; exact hjk)]
  rw [List.getElem?_eq_getElem (by rw [hk]; exact hjk)] at hj
  exact hj
end


def vaV (x : Va) : List Value := x.1.row
theorem vaV_len (x : Va) : (vaV x).length = 4 := rfl
theorem vaV_one (x : Va) : ∀ u ∈ vaV x, u.oneCell' = true := fun u hu => by
  simp only [vaV, It.row, List.mem_cons, List.not_mem_nil, or_false] at hu
  rcases hu with rfl | rfl | rfl | rfl <;> rfl
def cfV (x y : Va) : Int := x.1.rd - y.1.rd
theorem swoV : SWO (Go.Proofs.ltOf cfV) where
  irrefl := fun x => by unfold Go.Proofs.ltOf cfV; simp
  trans := fun x y z h1 h2 => by unfold Go.Proofs.ltOf cfV at *; simp at *; omega
  ntrans := fun x y z h1 h2 => by unfold Go.Proofs.ltOf cfV at *; simp at *; omega
set_option maxHeartbeats 1000000 in
theorem less_one (x y : Va) (W : World) : Calls Try.prog 21 #[.agg (vaV x).toArray, .agg (vaV y).toArray] W fun e w' => e = .returned (.int .i64 (cfV x y)) ∧ ∃ q os', w' = grow (W.drewN q) os' := by
  have hx := x.2
  have hy := y.2
  unfold It.ok at hx hy
  have hw : IntKind.i64.wrap (x.1.rd - y.1.rd) = x.1.rd - y.1.rd := IntWalk.i64_in _ (by omega)
  obtain ⟨⟨x1, x2, x3, x4⟩, hX⟩ := x
  obtain ⟨⟨y1, y2, y3, y4⟩, hY⟩ := y
  dsimp only at hw
  show Calls Try.prog 21 #[.agg #[.string x1, .int .i64 x2, .int .i64 x3, .int .i64 x4], .agg #[.string y1, .int .i64 y2, .int .i64 y3, .int .i64 y4]] W fun e w' => e = .returned (.int .i64 (x3 - y3)) ∧ _
  clear hX hY hx hy
  go_enter Try.func21, Try.ntmps21
  go_wp2
  go_ret
  exact ⟨rfl, 0, _, by rw [alloc_eq_grow, alloc_eq_grow, grow_grow]; rfl⟩
theorem cmpV (blk off size : Nat) (w : World) : Go.Proofs.CmpLays Try.prog 21 #[] vaV 4 cfV blk off size w := fun _ _ _ _ x y => less_one x y _
theorem eg21 : ∀ (args : Array Value) (w : World), (callFunc 21 args).run Try.prog w = .ok (.enter 21 args) w := enters_of Try.func21 (by kernel_rfl) rfl

/-- A row that is sorted. -/
def SortedP (l : List Va) (b n : Nat) (w : World) (e : Ending) (w' : World) : Prop :=
  e = .returned (.tuple #[]) ∧ (∃ s : List Va, s.Perm l ∧ (∀ i j, i < j → j < s.length → (vi s i).rd ≤ (vi s j).rd) ∧ Sl w' w'.heap.size 4 (some ⟨b, 0, none⟩) n (fun i => (vi s i).row)) ∧ ∀ B, B ≤ b → B ≤ w.heap.size → Go.RowKit.Below B w w'

theorem Max_any (b off n c : Nat) (f : Nat → Int) (w : World) (hn : 0 < n) (hn2 : n ≤ 100) (hc : ∀ j, j < n → w.cell? ⟨b, off + j, none⟩ = some (.int .i64 (f j))) :
    Calls Try.prog 22 #[.slice (some ⟨b, off, none⟩) n c] w fun e w' => e = .returned (.int .i64 (Lib.maxOf ((List.range n).map f))) ∧ w' = w := by
  have h := Any.slices_Max_int Try.lays113 b off n c ((List.range n).map f) w hn (by simp) (by omega) (fun j hj => by
    have hj' : j < n := by simpa using hj
    rw [hc j hj']
    simp [List.getD_eq_getElem?_getD, hj'])
  rw [List.take_of_length_le (by simp)] at h
  exact h
end Go.Proofs.Ytmdfdjgeaemicaa
