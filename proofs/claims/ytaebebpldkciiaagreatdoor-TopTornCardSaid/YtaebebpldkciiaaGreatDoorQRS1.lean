/- Package replay at one entry: set a b, of no state. -/
import Derived.Test.YtaebebpldkciiaaGreatDoorQShE
import Derived.Lib.ConvBytes
import Derived.Deep.QuietTactic
import Derived.Handy
namespace Go.Proofs.YtaebebpldkciiaaGreatDoor
open Go.RowKit
theorem SChk_nil (w : World) : Calls Tryz.prog 93 #[.slice none 0 0] w fun e w' => e = .returned (.int .i64 0) ∧ Below w.heap.size w w' := by
 go_enter Tryz.func93, Tryz.ntmps93
 go_wp2
 go_loop [10] (fun k => k = .int .i64 0) (fun _ => 0)
 case atStart => rfl
 case round =>
  subst hrel
  go_wp2
  go_ret
  exact ⟨rfl, Below.refl _ _⟩
theorem Bsf_nil (t : ByteArray) (w : World) : Calls Tryz.prog 171 #[.slice none 0 0, .string t, .func (.func 172) #[] #[]] w fun e w' => e = .returned (.tuple #[.int .i64 0, .bool false]) ∧ Below w.heap.size w w' := by
 go_enter Tryz.func171, Tryz.ntmps171
 go_wp2
 go_loop [9, 10] (fun a b => a = .int .i64 0 ∧ b = .int .i64 0) (fun _ _ => 0)
 case atStart => exact ⟨rfl, rfl⟩
 case round =>
  obtain ⟨rfl, rfl⟩ := hrel
  go_wp2
  go_ret2
  exact ⟨rfl, Below.refl _ _⟩
theorem Find_nil (t : ByteArray) (w : World) : Calls Tryz.prog 137 #[.slice none 0 0, .string t] w fun e w' => e = .returned (.tuple #[.int .i64 0, .bool false]) ∧ Below w.heap.size w w' := by
 go_enter Tryz.func137, Tryz.ntmps137
 go_wp2_with (go_at_call 171; refine (Bsf_nil _ _).mono ?_; rintro e w1 ⟨rfl, hb1⟩)
 go_ret2
 exact ⟨rfl, hb1⟩
set_option maxRecDepth 100000 in
theorem CloneR_nil (w : World) : Calls Tryz.prog 134 #[.slice none 0 0] w fun e w' => e = .returned (.slice none 0 0) ∧ Below w.heap.size w w' := by
 have hk := fun (W : World) => Lib.run_eql_slice_nil (P := Tryz.prog) W 117 121 none 0 0 0 0 Tryz.underlying117
 go_enter Tryz.func134, Tryz.ntmps134
 go_wp2
 go_ret
 exact ⟨rfl, Below.refl _ _⟩
theorem rw_info : (Tryz.prog.info? 121).map (fun i => (i.zero, i.size, i.bytes)) = some (some (.agg #[.string ByteArray.empty, .string ByteArray.empty]), 2, 32) := by kernel_rfl
def OneRow (y : ByteArray) (w : World) (v : Value) (w' : World) : Prop := ∃ g c, v = .slice (some ⟨g, 0, none⟩) 1 c ∧ w'.cell? ⟨g, 1, none⟩ = some (.string y) ∧ g < w'.heap.size ∧ Below w.heap.size w w'
set_option maxRecDepth 100000 in
set_option maxHeartbeats 2000000 in
theorem Ins_nil (N : Nat) (x y : ByteArray) (w : World) (hN : w.heap[N]? = some (.cells #[.string x, .string y] 121 (0, 0))) :
  Calls Tryz.prog 170 #[.slice none 0 0, .int .i64 0, .slice (some ⟨N, 0, none⟩) 1 1] w fun e w' => ∃ v, e = .returned v ∧ OneRow y w v w' := by
 obtain ⟨i0, E0, E1, E2, E3⟩ := info_parts rw_info
 have hnw : ∀ (j : Nat) (u : Value), [Value.string x, .string y][j]? = some u → w.cell? ((⟨N, 0, none⟩ : Addr).add j) = some u := fun j u hu => by
  rw [Addr.add_mid, Nat.zero_add, cell_of_row _ _ _ _ _ _ hN]
  simpa using hu
 go_enter Tryz.func170, Tryz.ntmps170
 go_wp2_with (at_builtin; go_loud (refine wpList_append_lies w rfl (.tmp 23) (.tmp 24) 117 rfl w.heap.size 121 i0 _ 2 32 Tryz.underlying117 E0 E1 E2 E3 rfl (by decide) (.slice none 0 0) 0 [] rfl (World.ownsRow_nil _ _ _ _) ⟨N, 0, none⟩ 1 1 [.string x, .string y] rfl (by simp) hnw (fun u hu => by simp only [List.mem_cons, List.not_mem_nil, or_false] at hu; rcases hu with rfl | rfl <;> rfl) (by omega) (by simp only [maxLen]; omega) (by decide) (Nat.le_refl _) w.heap.size rfl ?_; intro g3 cap3 w3 hv3 hg3 hat3 hlt3))
 go_ret
 have h1 := hv3.cellAt 1 (by decide)
 exact ⟨_, rfl, g3, cap3, rfl, by simpa using h1, hlt3, (Below.refl _ _).grown hg3 (Nat.le_refl _) (fun k hk => by simp [Value.ownBlock] at hk)⟩
set_option maxRecDepth 100000 in
set_option maxHeartbeats 2000000 in
theorem Key_one (s : ByteArray) (hz : s.size = 1) (h7 : (s.data.toList.getD 0 0).toNat = 97) (w : World) : Calls Tryz.prog 130 #[.string s] w fun e w' => e = .returned (.bool true) ∧ Below w.heap.size w w' := by
 have hk := fun (W : World) => Lib.run_convert_string_bytes (P := Tryz.prog) W 9 234 5 s Tryz.underlying9 Tryz.underlying234 Tryz.underlying5
 have HC := Lib.hid (fun (i : Nat) (hi : i < s.size) => Lib.bytesWorld_cell w 5 s i hi)
 have HZ := Lib.hid hz
 have d1 : decide ((1 : Int) ≤ (s.size : Int)) = true := by simp; omega
 have d2 : decide ((s.size : Int) ≤ 12) = true := by simp; omega
 clear hz
 go_enter Tryz.func130, Tryz.ntmps130
 go_wp2
 go_loop [8] (fun k => ∃ j : Nat, j ≤ s.size ∧ k = .int .i64 j) (fun k => s.size - (intOf k).toNat)
 case atStart => exact ⟨0, by omega, rfl⟩
 case round =>
  obtain ⟨j, hj, rfl⟩ := hrel
  by_cases hlt : j < s.size
  ·have hcell := HC.out j hlt
   have e0 : j = 0 := by have := HZ.out; omega
   have hj0 : (0 : Int) ≤ (j : Int) := by omega
   have hjn : (j : Int) < (s.size : Int) := by omega
   have hjw : IntKind.i64.wrap ((j : Int) + 1) = (j : Int) + 1 := IntWalk.i64_in _ (by have := HZ.out; omega)
   have hc : (s.data.toList.getD j 0).toNat = 97 := by rw [e0]; exact h7
   generalize (s.data.toList.getD j 0).toNat = c at *
   subst hc
   clear e0 h7
   go_wp2
   go_round
   case rel => exact ⟨j + 1, by omega, by go_num⟩
   case measure => simp [intOf]; omega
  ·obtain rfl : j = s.size := by omega
   go_wp2
   go_ret
   exact ⟨rfl, below_bytes w 5 _⟩
set_option maxRecDepth 100000 in
set_option maxHeartbeats 2000000 in
theorem Val_one (s : ByteArray) (hz : s.size = 1) (h7 : (s.data.toList.getD 0 0).toNat = 98) (w : World) : Calls Tryz.prog 131 #[.string s] w fun e w' => e = .returned (.bool true) ∧ Below w.heap.size w w' := by
 have hk := fun (W : World) => Lib.run_convert_string_bytes (P := Tryz.prog) W 9 234 5 s Tryz.underlying9 Tryz.underlying234 Tryz.underlying5
 have HC := Lib.hid (fun (i : Nat) (hi : i < s.size) => Lib.bytesWorld_cell w 5 s i hi)
 have HZ := Lib.hid hz
 have d2 : decide ((s.size : Int) ≤ 40) = true := by simp; omega
 clear hz
 go_enter Tryz.func131, Tryz.ntmps131
 go_wp2
 go_loop [8] (fun k => ∃ j : Nat, j ≤ s.size ∧ k = .int .i64 j) (fun k => s.size - (intOf k).toNat)
 case atStart => exact ⟨0, by omega, rfl⟩
 case round =>
  obtain ⟨j, hj, rfl⟩ := hrel
  by_cases hlt : j < s.size
  ·have hcell := HC.out j hlt
   have e0 : j = 0 := by have := HZ.out; omega
   have hj0 : (0 : Int) ≤ (j : Int) := by omega
   have hjn : (j : Int) < (s.size : Int) := by omega
   have hjw : IntKind.i64.wrap ((j : Int) + 1) = (j : Int) + 1 := IntWalk.i64_in _ (by have := HZ.out; omega)
   have hc : (s.data.toList.getD j 0).toNat = 98 := by rw [e0]; exact h7
   generalize (s.data.toList.getD j 0).toNat = c at *
   subst hc
   clear e0 h7
   go_wp2
   go_round
   case rel => exact ⟨j + 1, by omega, by go_num⟩
   case measure => simp [intOf]; omega
  ·obtain rfl : j = s.size := by omega
   go_wp2
   go_ret
   exact ⟨rfl, below_bytes w 5 _⟩
def sA : ByteArray := ⟨#[97]⟩
def sB : ByteArray := ⟨#[98]⟩
set_option maxRecDepth 100000 in
set_option maxHeartbeats 2000000 in
theorem set_one (x y : ByteArray) (w : World) : Calls Tryz.prog 133 #[.slice none 0 0, .string x, .string y] w fun e w' => ∃ v, e = .returned v ∧ OneRow y w v w' := by
 go_enter Tryz.func133, Tryz.ntmps133
 go_upto_region 5 with (go_at_call 137; go_loud (refine (Find_nil _ _).mono ?_; rintro e w1 ⟨rfl, hb1⟩; have HB1 := Lib.hid hb1; have HI := Lib.hid (Ins_nil w1.heap.size x y (w1.alloc (.cells #[.string x, .string y] 121)) (heap_alloc_new w1 _)); clear hb1))
 have hb2 : Below w.heap.size w (w1.alloc (.cells #[.string x, .string y] 121)) := HB1.out.alloc HB1.out.size _
 have HB2 := Lib.hid hb2
 clear hb2
 go_wp2_with (go_at_call 170; go_loud (refine HI.out.mono ?_; rintro e w3 ⟨v, rfl, g, c, rfl, h1, h2, h3⟩; have HO : Hid (OneRow y w (.slice (some ⟨g, 0, none⟩) 1 c) w3) := Lib.hid ⟨g, c, rfl, h1, h2, HB2.out.trans (h3.mono HB2.out.size)⟩; clear h1 h2 h3))
 go_ret
 exact ⟨_, rfl, HO.out⟩
set_option maxRecDepth 100000 in
set_option maxHeartbeats 2000000 in
theorem Set_one (w : World) : Calls Tryz.prog 95 #[.slice none 0 0, .string sA, .string sB] w fun e w' => ∃ v, e = .returned (.tuple #[v, .int .i64 0]) ∧ OneRow sB w v w' := by
 have HK := Lib.hid (fun (W : World) => Key_one sA rfl rfl W)
 have HV := Lib.hid (fun (W : World) => Val_one sB rfl rfl W)
 have HS := Lib.hid (fun (W : World) => set_one sA sB W)
 obtain ⟨a, ha⟩ : ∃ a, sA = a := ⟨_, rfl⟩
 obtain ⟨b, hb⟩ : ∃ b, sB = b := ⟨_, rfl⟩
 rw [ha] at HK HS ⊢
 rw [hb] at HV HS ⊢
 clear ha hb
 go_enter Tryz.func95, Tryz.ntmps95
 go_wp2_with (first
  | (go_at_call 93; go_loud (refine (SChk_nil _).mono ?_; rintro e w1 ⟨rfl, hb1⟩; have HB1 := Lib.hid hb1; clear hb1))
  | (go_at_call 130; go_loud (refine (HK.out _).mono ?_; rintro e w2 ⟨rfl, hb2⟩; have HB2 := Lib.hid (HB1.out.trans (hb2.mono HB1.out.size)); clear hb2))
  | (go_at_call 131; go_loud (refine (HV.out _).mono ?_; rintro e w3 ⟨rfl, hb3⟩; have HB3 := Lib.hid (HB2.out.trans (hb3.mono HB2.out.size)); clear hb3))
  | (go_at_call 134; go_loud (refine (CloneR_nil _).mono ?_; rintro e w4 ⟨rfl, hb4⟩; have HB4 := Lib.hid (HB3.out.trans (hb4.mono HB3.out.size)); clear hb4))
  | (go_at_call 133; go_loud (refine (HS.out _).mono ?_; rintro e w5 ⟨v, rfl, g, c, rfl, h1, h2, h3⟩; have HO : Hid (OneRow b w (.slice (some ⟨g, 0, none⟩) 1 c) w5) := Lib.hid ⟨g, c, rfl, h1, h2, HB4.out.trans (h3.mono HB4.out.size)⟩; clear h1 h2 h3)))
 go_ret2
 exact ⟨_, rfl, HO.out⟩
def X0 : Ent := ⟨1, 0, ⟨#[115, 101, 116]⟩, ⟨#[97, 32, 98]⟩⟩
set_option maxRecDepth 100000 in
set_option maxHeartbeats 2000000 in
theorem RStep_one (w : World) (he : Env w) : Calls Tryz.prog 57 #[.slice none 0 0, valE X0] w fun e w' => ∃ v, e = .returned (.tuple #[v, .int .i64 0]) ∧ OneRow sB w v w' := by
 have HK := Lib.hid (fun (W : World) => (CheckE_any X0 W ⟨⟨by decide, by decide⟩, ⟨by decide, by decide⟩, by decide, by decide⟩))
 rw [show chk X0 = 0 by decide] at HK
 have HC := Lib.hid (fun (W : World) (h : Env W) => Cut1_any (⟨#[97, 32, 98]⟩ : ByteArray) ⟨#[32]⟩ W (by decide) h)
 rw [show Lib.cut (bl (⟨#[97, 32, 98]⟩ : ByteArray)) (bl (⟨#[32]⟩ : ByteArray)) = ([97], [98], true) by decide] at HC
 have HS := Lib.hid (fun (W : World) => Set_one W)
 have HE := Lib.hid he
 unfold valE X0 at HK ⊢
 unfold sA at HS
 dsimp only at HK HC ⊢
 have hb0 : Below w.heap.size w (w.alloc (.cells #[.int .i64 1, .int .i64 0, .string ⟨#[115, 101, 116]⟩, .string ⟨#[97, 32, 98]⟩] 78)) := (Below.refl _ _).alloc (Nat.le_refl _) _
 have HB0 := Lib.hid hb0
 clear hb0 he
 go_enter Tryz.func57, Tryz.ntmps57
 go_wp2_with (first
  | (go_at_call 93; go_loud (refine (SChk_nil _).mono ?_; rintro e w1 ⟨rfl, hb1⟩; have hr1 := (hb1.block w.heap.size (by simp)).trans (heap_alloc_new w _); have HB1 := Lib.hid (HB0.out.trans (hb1.mono HB0.out.size)); have q0 := cell_of_row w1 _ 0 _ _ _ hr1; have q1 := cell_of_row w1 _ 1 _ _ _ hr1; have q2 := cell_of_row w1 _ 2 _ _ _ hr1; have q3 := cell_of_row w1 _ 3 _ _ _ hr1; have HR1 := Lib.hid hr1; have HZ1 : Hid (w.heap.size < w1.heap.size) := Lib.hid (by have := hb1.size; simp at this; omega); clear hb1 hr1))
  | (go_at_call 58; go_loud (refine (HK.out _).mono ?_; rintro e w2 ⟨rfl, hb2⟩; have hr2 := (hb2.block w.heap.size HZ1.out).trans HR1.out; have HB2 := Lib.hid (HB1.out.trans (hb2.mono HB1.out.size)); have p2 := cell_of_row w2 _ 2 _ _ _ hr2; have p3 := cell_of_row w2 _ 3 _ _ _ hr2; have HR2 := Lib.hid hr2; have HZ2 : Hid (w.heap.size < w2.heap.size) := Lib.hid (by have := hb2.size; have := HZ1.out; omega); clear hb2 hr2))
  | (go_at_call 94; go_loud (refine (HC.out _ (HE.out.below HB2.out)).mono ?_; rintro e w3 ⟨rfl, hb3⟩; have hr3 := (hb3.block w.heap.size HZ2.out).trans HR2.out; have HB3 := Lib.hid (HB2.out.trans (hb3.mono HB2.out.size)); have s2 := cell_of_row w3 _ 2 _ _ _ hr3; clear hb3 hr3))
  | (go_at_call 95; go_loud (refine (HS.out _).mono ?_; rintro e w5 ⟨v, rfl, g, c, rfl, h1, h2, h3⟩; have HO : Hid (OneRow sB w (.slice (some ⟨g, 0, none⟩) 1 c) w5) := Lib.hid ⟨g, c, rfl, h1, h2, HB3.out.trans (h3.mono HB3.out.size)⟩; clear h1 h2 h3)))
 go_ret2
 exact ⟨_, rfl, HO.out⟩
end Go.Proofs.YtaebebpldkciiaaGreatDoor
