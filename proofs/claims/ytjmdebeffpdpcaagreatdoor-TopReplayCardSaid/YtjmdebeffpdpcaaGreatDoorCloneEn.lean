/- slices.Clone, one instance. -/
import Derived.Test.YtjmdebeffpdpcaaGreatDoorFlat

namespace Go.Proofs.YtjmdebeffpdpcaaGreatDoor
open Go.RowKit

theorem CloneEnt_info : (Tryz.prog.info? 48).map (fun i => (i.zero, i.size, i.bytes)) = some (some (.agg #[.int .i64 0, .int .i64 0, .string ByteArray.empty, .string ByteArray.empty]), 4, 48) := by kernel_rfl

set_option maxHeartbeats 1000000 in
theorem CloneEnt_any (A : Option Addr) (n c : Nat) (row : Nat → List Value) (w : World) (hA : Sl w w.heap.size 4 A n row) (hl : ∀ i, i < n → (row i).length = 4) (h1 : ∀ i, i < n → ∀ u ∈ row i, u.oneCell' = true)
    (hnil : A = none → n = 0) (hn : n ≤ maxLen) (hby : n * 48 ≤ 140737488355328) :
    Calls Tryz.prog 21 #[.slice A n c] w fun e w' => ∃ v, e = .returned v ∧ w'.ownsRow w.heap.size 48 4 v n (flatR row n) ∧ Below w.heap.size w w' := by
  cases A with
  | none =>
    obtain rfl := hnil rfl
    have hk := fun (W : World) => Lib.run_eql_slice_nil (P := Tryz.prog) W 22 48 none 0 c 0 0 Tryz.underlying22
    go_enter Tryz.func21, Tryz.ntmps21
    go_wp2
    go_ret
    exact ⟨_, rfl, World.ownsRow_nil _ _ _ _, Below.refl _ _⟩
  | some ad =>
    have hk := fun (W : World) => Lib.run_eql_slice_nil (P := Tryz.prog) W 22 48 (some ad) n c 0 0 Tryz.underlying22
    obtain ⟨i0, J0, J1, J2, J3⟩ := info_parts CloneEnt_info
    have hbn : Below w.heap.size w (w.alloc (.cells #[] 48)) := (Below.refl _ _).alloc (Nat.le_refl _) _
    have hnews := Sl_news (by decide) (hA.below hbn) rfl hl
    have hlen := flatR_len n hl
    have hone : ∀ u ∈ flatR row n, u.oneCell' = true := fun u hu => by
      obtain ⟨i, hi, hu⟩ := flatR_mem hu
      exact h1 i hi u hu
    have HN := Lib.hid hnews
    have HL := Lib.hid hlen
    have HO := Lib.hid hone
    clear hnews hlen hone h1 hl
    go_enter Tryz.func21, Tryz.ntmps21
    go_wp2_with (at_builtin; refine wpList_append_own _ rfl (.tmp 5) (.tmp 6) 22 rfl w.heap.size 48 i0 _ 4 48 Tryz.underlying22 J0 J1 J2 J3 rfl (by decide) (.slice (some ⟨w.heap.size, 0, none⟩) 0 0) 0 [] rfl (World.ownsRow_made w #[] 0 (Nat.le_refl _) (by decide) rfl) ad n c (flatR row n) rfl HL.out HN.out HO.out (by omega) (by omega) (by simp) ?_; intro v' w' hown hg hni)
    go_ret
    refine ⟨_, rfl, ?_, hbn.grown hg hbn.size (fun k hk => by simp [Value.ownBlock] at hk; omega)⟩
    rw [Nat.zero_add, List.nil_append] at hown
    exact hown

end Go.Proofs.YtjmdebeffpdpcaaGreatDoor
