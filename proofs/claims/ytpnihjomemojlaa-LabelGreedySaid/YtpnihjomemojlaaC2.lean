/- Package label, the other end: outside. -/
import Derived.Test.YtpnihjomemojlaaC1
namespace Go.Proofs.Ytpnihjomemojlaa
open Go.RowKit Go.Shelf Go.Proofs

set_option maxHeartbeats 1000000 in
theorem points_any (A : Option Addr) (n c : Nat) (l : List It) (b : Bx) (B : Nat) (w : World) (hA : Sl w w.heap.size 4 A n (fun i => itV l[i]!)) (hl : l.length = n) (hn : n ≤ 100) (hB : B < w.heap.size) (hg : w.heap[B]? = some (.cells #[.int .i64 b.x, .int .i64 b.y, .int .i64 b.w, .int .i64 b.h] 23 (0, 0))) :
    Calls Try.prog 23 #[.slice A n c, .func (.func 24) #[] #[.pointer (some ⟨B, 0, none⟩)]] w fun e w' => e = .returned (.bool (l.any fun x => insB b x.x x.y)) ∧ Below w.heap.size w w' := by
  rcases Nat.eq_zero_or_pos n with rfl | hn0
  · obtain rfl := List.length_eq_zero_iff.1 hl
    have h0 : ∀ (a : Option Addr) (W : World), Calls Try.prog 29 #[.slice a 0 c, .func (.func 24) #[] #[.pointer (some ⟨B, 0, none⟩)]] W fun e w' => e = .returned (.int .i64 (-1)) ∧ w' = W := fun a W => by
      go_enter Try.func29, Try.ntmps29
      go_wp2
      go_loopw [5, 8] (fun _ i wr => i = .int .i64 0 ∧ wr = W) (fun _ _ _ => 1)
      case atStart => exact ⟨rfl, rfl⟩
      case round =>
        obtain ⟨rfl, rfl⟩ := hrel
        go_wp2
        go_ret
        exact ⟨rfl, rfl⟩
    have H0 := Lib.hid h0
    clear h0 hA hg hl
    go_enter Try.func23, Try.ntmps23
    go_wp2_with (go_at_call 29; go_loud (refine (H0.out _ _).mono ?_; rintro e w' ⟨rfl, rfl⟩))
    go_ret
    exact ⟨rfl, Below.refl _ _⟩
  · obtain ⟨bb, off, rfl, hb, hr⟩ := hA hn0
    have eg : ∀ args w, (callFunc 24 args).run Try.prog w = .ok (.enter 24 args) w := enters_of Try.func24 (by kernel_rfl) rfl
    have hcon := AnyQ.slices_ContainsFunc Try.l23 4 Try.isAgg31 Try.sizeOf31 itV (fun _ => rfl) (fun x => insB b x.x x.y) 24 #[.pointer (some ⟨B, 0, none⟩)] eg bb off n c l w
      (pred24 b B w hB hg) (by omega) (by omega) hb (fun j hj i v hi => hr j (by omega) i v hi)
    rw [List.take_of_length_le (by omega)] at hcon
    exact hcon

set_option maxRecDepth 100000 in
set_option maxHeartbeats 1000000 in
theorem outside_any (A : Option Addr) (n c : Nat) (l : List It) (k s : Nat) (w : World) (hA : Sl w w.heap.size 4 A n (fun i => itV l[i]!)) (hl : l.length = n) (hn : n ≤ 100) (hk : k < n) (hs : s < 8) :
    Calls Try.prog 16 #[.slice A n c, .int .i64 (k : Int), .int .i64 (s : Int)] w fun e w' => e = .returned (.bool (!(l.any fun x => insB (boxS l[k]! s) x.x x.y))) ∧ Below w.heap.size w w' := by
  obtain ⟨ba, oa, rfl, hba, hra⟩ := hA (by omega)
  have hc : w.rangeAt ba (oa + k * 4) (itV l[k]!) := hra k hk
  obtain ⟨it, hit⟩ : ∃ it, l[k]! = it := ⟨_, rfl⟩
  rw [hit] at hc ⊢
  have c0 : w.cell? ⟨ba, oa + k * 4, none⟩ = some (.int .i64 it.x) := hc 0 _ rfl
  have c1 : w.cell? ⟨ba, oa + k * 4 + 1, none⟩ = some (.int .i64 it.y) := hc 1 _ rfl
  have c2 : w.cell? ⟨ba, oa + k * 4 + 2, none⟩ = some (.int .i64 it.w) := hc 2 _ rfl
  have c3 : w.cell? ⟨ba, oa + k * 4 + 3, none⟩ = some (.int .i64 it.h) := hc 3 _ rfl
  have HBx := Lib.hid (LabelBox_any it s hs w)
  obtain ⟨b, hb⟩ : ∃ b, boxS it s = b := ⟨_, rfl⟩
  rw [hb] at HBx ⊢
  have HP := Lib.hid (fun (W : World) (hW : Below w.heap.size w W) (B : Nat) hB hg => points_any (some ⟨ba, oa, none⟩) n c l b B W ((hA.below hW).more hW.size) hl hn hB hg)
  generalize (l.any fun x => insB b x.x x.y) = r at *
  obtain ⟨b1, b2, b3, b4⟩ := b
  dsimp only at HBx HP
  have hk0 : (0 : Int) ≤ (k : Int) := by omega
  have hkn : (k : Int) < (n : Int) := by omega
  clear hc hra hA hl hit hb
  go_enter Try.func16, Try.ntmps16
  go_wp2_with (first
    | (go_at_call 22; go_loud (refine HBx.out.mono ?_; rintro e w1 ⟨rfl, hb1⟩; have B2 := hb1.alloc hb1.size (.cells #[.int .i64 b1, .int .i64 b2, .int .i64 b3, .int .i64 b4] 23)))
    | (go_at_call 23; go_loud (refine (HP.out _ B2 w1.heap.size (by simp) (heap_alloc_new w1 _)).mono ?_; rintro e w3 ⟨rfl, hb3⟩)))
  go_ret
  exact ⟨rfl, B2.trans (hb3.mono B2.size)⟩
end Go.Proofs.Ytpnihjomemojlaa
