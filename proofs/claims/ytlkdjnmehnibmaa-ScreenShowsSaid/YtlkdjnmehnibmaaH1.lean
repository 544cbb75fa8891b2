/- Package screen: how many cells of a picture show an o (plain law). -/
import Derived.Test.YtlkdjnmehnibmaaA5
import Derived.Lib.Join
import Derived.Lib.Bytealg
namespace Go.Proofs.Ytlkdjnmehnibmaa
open Go.RowKit

/-- The cells of a picture, row by row from the top. -/
def cellsPic (wd ht : Nat) : List (Int × Int) := (List.range ht).flatMap fun k => (List.range wd).map fun x : Nat => ((x : Int), ((ht - 1 - k : Nat) : Int))
theorem cellsPic_nodup (wd ht : Nat) : (cellsPic wd ht).Nodup := by
  unfold cellsPic List.Nodup
  rw [List.pairwise_flatMap]
  refine ⟨fun k _ => ?_, ?_⟩
  · rw [List.pairwise_map]
    exact List.pairwise_lt_range.imp fun {a b} h e => by
      have := (Prod.mk.inj e).1
      omega
  · refine List.Pairwise.imp_of_mem ?_ (List.pairwise_lt_range (n := ht))
    intro a b ha hb hab x hx y hy e
    have ha' := List.mem_range.1 ha
    have hb' := List.mem_range.1 hb
    rw [List.mem_map] at hx hy
    obtain ⟨x1, _, rfl⟩ := hx
    obtain ⟨y1, _, rfl⟩ := hy
    have := (Prod.mk.inj e).2
    omega
theorem cellsPic_mem {wd ht : Nat} {q : Int × Int} : q ∈ cellsPic wd ht ↔ 0 ≤ q.1 ∧ q.1 < (wd : Int) ∧ 0 ≤ q.2 ∧ q.2 < (ht : Int) := by
  unfold cellsPic
  rw [List.mem_flatMap]
  constructor
  · rintro ⟨k, hk, h⟩
    rw [List.mem_map] at h
    obtain ⟨x, hx, rfl⟩ := h
    have := List.mem_range.1 hk
    have := List.mem_range.1 hx
    simp only
    omega
  · rintro ⟨h1, h2, h3, h4⟩
    refine ⟨ht - 1 - q.2.toNat, List.mem_range.2 (by omega), List.mem_map.2 ⟨q.1.toNat, List.mem_range.2 (by omega), ?_⟩⟩
    exact Prod.ext (by simp only; omega) (by simp only; omega)

def hitP (p : Nat → Int × Int) (n : Nat) (q : Int × Int) : Bool := (List.range n).any fun i => decide (p i = q)
theorem hitP_B (p : Nat → Int × Int) (n y x : Nat) : hitB p n y x = hitP p n ((x : Int), (y : Int)) := by
  unfold hitB hitP
  congr 1
  funext i
  rw [Bool.eq_iff_iff]
  simp only [Bool.and_eq_true, decide_eq_true_eq, Prod.ext_iff]

/-- The rows of a picture. -/
def rowsP (wd ht : Nat) (p : Nat → Int × Int) (n : Nat) : List ByteArray := (List.range ht).map fun k => rowStr wd (fP p n (ht - 1 - k))
theorem rowStr_list (wd : Nat) (g : Nat → Int) : (rowStr wd g).data.toList = (List.range wd).map fun x => UInt8.ofNat (g x).toNat := by
  unfold rowStr
  rw [strOfNums_data, List.map_map]
  rfl
theorem joinTail_nil (r : List (List UInt8)) : Lib.joinTail [] r = r.flatten := by
  unfold Lib.joinTail
  congr 1
  exact (List.map_congr_left fun a _ => List.nil_append a).trans (List.map_id r)
theorem join_flat (xs : List (List UInt8)) : Lib.join xs [] = xs.flatten := by
  cases xs with
  | nil => rfl
  | cons x r => rw [Lib.join_cons, joinTail_nil, List.flatten_cons]

theorem count_pic (wd ht : Nat) (p : Nat → Int × Int) (n : Nat) : Lib.countByte (Lib.join ((rowsP wd ht p n).map (·.data.toList)) []) 111 = (cellsPic wd ht).countP (hitP p n) := by
  unfold Lib.countByte rowsP cellsPic
  rw [join_flat, List.map_map, ← List.flatMap_def, List.count_flatMap, List.countP_flatMap]
  congr 1
  refine List.map_congr_left fun k hk => ?_
  simp only [Function.comp_apply]
  rw [rowStr_list, List.countP_map]
  unfold List.count
  rw [List.countP_map]
  refine List.countP_congr fun x _ => ?_
  simp only [Function.comp_apply, beq_iff_eq]
  rw [← hitP_B]
  unfold fP
  cases hitB p n (ht - 1 - k) x <;> simp

theorem len_pic (wd ht : Nat) (p : Nat → Int × Int) (n : Nat) : (Lib.join ((rowsP wd ht p n).map (·.data.toList)) []).length = wd * ht := by
  unfold rowsP
  rw [join_flat, List.map_map, List.length_flatten, List.map_map]
  rw [show (List.length ∘ (fun x => x.data.toList) ∘ fun k => rowStr wd (fP p n (ht - 1 - k))) = fun _ => wd from by funext k; simp [rowStr_list]]
  rw [List.map_const', List.sum_replicate_nat, List.length_range, Nat.mul_comm]

/-- The visible cells among the first k points, each once. -/
def seenL (wd ht : Nat) (p : Nat → Int × Int) : Nat → List (Int × Int)
  | 0 => []
  | k + 1 => if (0 ≤ (p k).1 ∧ (p k).1 < (wd : Int) ∧ 0 ≤ (p k).2 ∧ (p k).2 < (ht : Int)) ∧ p k ∉ seenL wd ht p k then seenL wd ht p k ++ [p k] else seenL wd ht p k
theorem seenL_mem (wd ht : Nat) (p : Nat → Int × Int) (q : Int × Int) : ∀ k, q ∈ seenL wd ht p k ↔ q ∈ cellsPic wd ht ∧ hitP p k q = true
  | 0 => by simp [seenL, hitP]
  | k + 1 => by
    have hs : hitP p (k + 1) q = (hitP p k q || decide (p k = q)) := by
      unfold hitP
      rw [List.range_succ, List.any_append]
      simp
    rw [hs, seenL]
    have ih := seenL_mem wd ht p q k
    split
    · next h =>
      rw [List.mem_append, ih, List.mem_singleton, Bool.or_eq_true, decide_eq_true_eq]
      constructor
      · rintro (⟨a, b⟩ | rfl)
        · exact ⟨a, .inl b⟩
        · exact ⟨cellsPic_mem.2 h.1, .inr rfl⟩
      · rintro ⟨a, b | rfl⟩
        · exact .inl ⟨a, b⟩
        · exact .inr rfl
    · next h =>
      rw [ih, Bool.or_eq_true, decide_eq_true_eq]
      constructor
      · rintro ⟨a, b⟩; exact ⟨a, .inl b⟩
      · rintro ⟨a, b | rfl⟩
        · exact ⟨a, b⟩
        · refine ⟨a, ?_⟩
          by_cases hm : p k ∈ seenL wd ht p k
          · exact (ih.1 hm).2
          · exact absurd ⟨cellsPic_mem.1 a, hm⟩ h
theorem seenL_nodup (wd ht : Nat) (p : Nat → Int × Int) : ∀ k, (seenL wd ht p k).Nodup
  | 0 => List.nodup_nil
  | k + 1 => by
    rw [seenL]
    split
    · next h =>
      rw [List.nodup_append]
      refine ⟨seenL_nodup wd ht p k, by simp, fun a ha b hb => ?_⟩
      rw [List.mem_singleton] at hb
      subst hb
      exact fun e => h.2 (e ▸ ha)
    · exact seenL_nodup wd ht p k
theorem seenL_len (wd ht : Nat) (p : Nat → Int × Int) : ∀ k, (seenL wd ht p k).length ≤ k
  | 0 => Nat.le_refl _
  | k + 1 => by
    rw [seenL]
    have := seenL_len wd ht p k
    split
    · rw [List.length_append]; simp; omega
    · omega
/-- As many o's as visible cells with a point. -/
theorem seen_count (wd ht : Nat) (p : Nat → Int × Int) (n : Nat) : (cellsPic wd ht).countP (hitP p n) = (seenL wd ht p n).length := by
  rw [List.countP_eq_length_filter]
  refine List.Perm.length_eq ((List.perm_ext_iff_of_nodup ((cellsPic_nodup wd ht).filter _) (seenL_nodup wd ht p n)).2 fun q => ?_)
  rw [List.mem_filter, seenL_mem]
end Go.Proofs.Ytlkdjnmehnibmaa
