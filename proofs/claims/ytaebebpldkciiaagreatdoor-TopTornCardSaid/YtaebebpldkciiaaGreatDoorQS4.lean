/- The sine of package angle: all 4096 angles, computed. -/
import Derived.Test.YtaebebpldkciiaaGreatDoorQS3
namespace Go.Proofs.YtaebebpldkciiaaGreatDoor
open Go.RowKit
theorem sinAll0 : sinAll 0 128 = true := by kernel_rfl
theorem sinAll1 : sinAll 128 128 = true := by kernel_rfl
theorem sinAll2 : sinAll 256 128 = true := by kernel_rfl
theorem sinAll3 : sinAll 384 128 = true := by kernel_rfl
theorem sinAll4 : sinAll 512 128 = true := by kernel_rfl
theorem sinAll5 : sinAll 640 128 = true := by kernel_rfl
theorem sinAll6 : sinAll 768 128 = true := by kernel_rfl
theorem sinAll7 : sinAll 896 128 = true := by kernel_rfl
theorem sinAll8 : sinAll 1024 128 = true := by kernel_rfl
theorem sinAll9 : sinAll 1152 128 = true := by kernel_rfl
theorem sinAll10 : sinAll 1280 128 = true := by kernel_rfl
theorem sinAll11 : sinAll 1408 128 = true := by kernel_rfl
theorem sinAll12 : sinAll 1536 128 = true := by kernel_rfl
theorem sinAll13 : sinAll 1664 128 = true := by kernel_rfl
theorem sinAll14 : sinAll 1792 128 = true := by kernel_rfl
theorem sinAll15 : sinAll 1920 128 = true := by kernel_rfl
theorem sinAll16 : sinAll 2048 128 = true := by kernel_rfl
theorem sinAll17 : sinAll 2176 128 = true := by kernel_rfl
theorem sinAll18 : sinAll 2304 128 = true := by kernel_rfl
theorem sinAll19 : sinAll 2432 128 = true := by kernel_rfl
theorem sinAll20 : sinAll 2560 128 = true := by kernel_rfl
theorem sinAll21 : sinAll 2688 128 = true := by kernel_rfl
theorem sinAll22 : sinAll 2816 128 = true := by kernel_rfl
theorem sinAll23 : sinAll 2944 128 = true := by kernel_rfl
theorem sinAll24 : sinAll 3072 128 = true := by kernel_rfl
theorem sinAll25 : sinAll 3200 128 = true := by kernel_rfl
theorem sinAll26 : sinAll 3328 128 = true := by kernel_rfl
theorem sinAll27 : sinAll 3456 128 = true := by kernel_rfl
theorem sinAll28 : sinAll 3584 128 = true := by kernel_rfl
theorem sinAll29 : sinAll 3712 128 = true := by kernel_rfl
theorem sinAll30 : sinAll 3840 128 = true := by kernel_rfl
theorem sinAll31 : sinAll 3968 128 = true := by kernel_rfl
theorem sinB_all (h : Nat) (hh : h < 4096) : sinB h = true := by
 have hk : h / 128 < 32 := by omega
 have h1 : 128 * (h / 128) ≤ h := by omega
 have h2 : h < 128 * (h / 128) + 128 := by omega
 have key : sinAll (128 * (h / 128)) 128 = true := by
  generalize h / 128 = k at hk
  have hc : k = 0 ∨ k = 1 ∨ k = 2 ∨ k = 3 ∨ k = 4 ∨ k = 5 ∨ k = 6 ∨ k = 7 ∨ k = 8 ∨ k = 9 ∨ k = 10 ∨ k = 11 ∨ k = 12 ∨ k = 13 ∨ k = 14 ∨ k = 15 ∨ k = 16 ∨ k = 17 ∨ k = 18 ∨ k = 19 ∨ k = 20 ∨ k = 21 ∨ k = 22 ∨ k = 23 ∨ k = 24 ∨ k = 25 ∨ k = 26 ∨ k = 27 ∨ k = 28 ∨ k = 29 ∨ k = 30 ∨ k = 31 := by omega
  rcases hc with rfl | rfl | rfl | rfl | rfl | rfl | rfl | rfl | rfl | rfl | rfl | rfl | rfl | rfl | rfl | rfl | rfl | rfl | rfl | rfl | rfl | rfl | rfl | rfl | rfl | rfl | rfl | rfl | rfl | rfl | rfl | rfl
  ·exact sinAll0
  ·exact sinAll1
  ·exact sinAll2
  ·exact sinAll3
  ·exact sinAll4
  ·exact sinAll5
  ·exact sinAll6
  ·exact sinAll7
  ·exact sinAll8
  ·exact sinAll9
  ·exact sinAll10
  ·exact sinAll11
  ·exact sinAll12
  ·exact sinAll13
  ·exact sinAll14
  ·exact sinAll15
  ·exact sinAll16
  ·exact sinAll17
  ·exact sinAll18
  ·exact sinAll19
  ·exact sinAll20
  ·exact sinAll21
  ·exact sinAll22
  ·exact sinAll23
  ·exact sinAll24
  ·exact sinAll25
  ·exact sinAll26
  ·exact sinAll27
  ·exact sinAll28
  ·exact sinAll29
  ·exact sinAll30
  ·exact sinAll31
 exact sinAll_at key h1 h2
end Go.Proofs.YtaebebpldkciiaaGreatDoor
