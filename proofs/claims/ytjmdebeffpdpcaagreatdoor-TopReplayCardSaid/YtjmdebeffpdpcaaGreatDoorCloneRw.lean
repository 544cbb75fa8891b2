/- slices.Clone, one instance. -/
import Derived.Test.YtjmdebeffpdpcaaGreatDoorFlat

namespace Go.Proofs.YtjmdebeffpdpcaaGreatDoor
open Go.RowKit

theorem CloneRw_info : (Tryz.prog.info? 54).map (fun i => (i.zero, i.size, i.bytes)) = some (some (.agg #[.string ByteArray.empty, .string ByteArray.empty]), 2, 32) := by kernel_rfl

set_option maxHeartbeats 1000000 in
theorem CloneRw_any (A : Option Addr) (n c : Nat) (row : Nat → List Value) (w : World) (hA : Sl w w.heap.size 2 A n row) (hl : ∀ i, i < n → (row i).length = 2) (h1 : ∀ i, i < n → ∀ u ∈ row i, u.oneCell' = true)
    (hnil : A = none → n = 0) (hn : n ≤ maxLen) (hby : n * 32 ≤ 140737488355328) :
    Calls Tryz.prog 47 #[.slice A n c] w fun e w' => ∃ v, e = .returned v ∧ w'.ownsRow w.heap.size 54 2 v n (flatR row n) ∧ Below w.heap.size w w' := by
  cases A with
  | none =>
    obtain rfl := hnil rfl
    have hk := fun (W : World) => Lib.run_eql_slice_nil (P := Tryz.prog) W 32 54 none 0 c 0 0 Tryz.underlying32
    go_enter Tryz.func47, Tryz.ntmps47
    go_wp2
    go_ret
    exact ⟨_, rfl, World.ownsRow_nil _ _ _ _, Below.refl _ _⟩
  | some ad =>
    have hk := fun (W : World) => Lib.run_eql_slice_nil (P := Tryz.prog) W 32 54 (some ad) n c 0 0 Tryz.underlying32
    obtain ⟨i0, J0, J1, J2, J3⟩ := info_parts CloneRw_info
    have hbn : Below w.heap.size w (w.alloc (.cells #[] 54)) := (Below.refl _ _).alloc (Nat.le_refl _) _
    have hnews := Sl_news (by decide) (hA.below hbn) rfl hl
    have hlen := flatR_len n hl
    have hone : ∀ u ∈ flatR row n, u.oneCell' = true := fun u hu => by
      obtain ⟨i, hi, hu⟩ := flatR_mem hu
      exact h1 i hi u hu
    have HN := Lib.hid hnews
    have HL := Lib.hid hlen
    have HO := Lib.hid hone
    clear hnews hlen hone h1 hl
    go_enter Tryz.func47, Tryz.ntmps47
    go_wp2_with (at_builtin; refine wpList_append_own _ rfl (.tmp 5) (.tmp 6) 32 rfl w.heap.size 54 i0 _ 2 32 Tryz.underlying32 J0 J1 J2 J3 rfl (by decide) (.slice (some ⟨w.heap.size, 0, none⟩) 0 0) 0 [] rfl (World.ownsRow_made w #[] 0 (Nat.le_refl _) (by decide) rfl) ad n c (flatR row n) rfl HL.out HN.out HO.out (by omega) (by omega) (by simp) ?_; intro v' w' hown hg hni)
    go_ret
    refine ⟨_, rfl, ?_, hbn.grown hg hbn.size (fun k hk => by simp [Value.ownBlock] at hk; omega)⟩
    rw [Nat.zero_add, List.nil_append] at hown
    exact hown

end Go.Proofs.YtjmdebeffpdpcaaGreatDoor
