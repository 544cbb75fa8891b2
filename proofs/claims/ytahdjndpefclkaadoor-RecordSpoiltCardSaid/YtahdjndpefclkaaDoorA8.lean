/- Entries are compared; the walk of RecordBack. -/
import Derived.Test.YtahdjndpefclkaaDoorA7
import Derived.Laws.StructEq
namespace Go.Proofs.YtahdjndpefclkaaDoor
open Go.RowKit
open Go.Lib hiding intOf

theorem Prefix_any (s p : ByteArray) (w : World) : Calls Tryd.prog 13 #[.string s, .string p] w fun e w' => e = .returned (.bool (hasPrefix (bl s) (bl p))) ∧ w = w' :=
  (Any.strings_HasPrefix Tryd.lays99 s p w).mono fun _ _ h => ⟨h.1, h.2.symm⟩

def eqE (x y : Ent) : Bool := x.num == y.num && (x.time == y.time && (x.kind.toList == y.kind.toList && x.text.toList == y.text.toList))
theorem eqE_refl (x : Ent) : eqE x x = true := by simp [eqE]
theorem eqE_iff {x y : Ent} : eqE x y = true ↔ x = y := by
  constructor
  · intro h
    unfold eqE at h
    simp only [Bool.and_eq_true, beq_iff_eq] at h
    obtain ⟨h1, h2, h3, h4⟩ := h
    rw [ByteArray.toList_eq, ByteArray.toList_eq] at h3 h4
    cases x; cases y
    simp only at h1 h2 h3 h4
    rw [h1, h2, bl_inj h3, bl_inj h4]
  · rintro rfl; exact eqE_refl x

set_option maxRecDepth 100000 in
theorem run_eqE (x y : Ent) (w : World) : (Op.equalIn 10000 23 (valE x) (valE y)).run Tryd.prog w = .ok (eqE x y) w := by
  have u9 := Tryd.underlying9
  have a9 := Tryd.isAgg9
  have z9 := Tryd.sizeOf9
  have u3 := Tryd.underlying3
  have a3 := Tryd.isAgg3
  have z3 := Tryd.sizeOf3
  have hS : Tryd.prog.underlying 23 = some (.struct (Tryd.prog.fieldsOf 23)) := by kernel_rfl
  have hp : Tryd.prog.stoodInHeld 23 = false := by kernel_rfl
  obtain ⟨n, t, k, z⟩ := x
  obtain ⟨n', t', k', z'⟩ := y
  simp only [valE, eqE]
  rw [show (10000 : Nat) = 9999 + 1 from rfl, run_equalIn_agg w 9999 23 _ _ hS hp]
  simp only [Program.fieldsOf, Tryd.underlying23]
  go_simp
  by_cases h1 : n = n' <;> by_cases h2 : t = t' <;> by_cases h3 : k.toList = k'.toList <;> by_cases h4 : z.toList = z'.toList <;> simp [h1, h2, h3, h4]

set_option maxRecDepth 100000 in
set_option maxHeartbeats 2000000 in
theorem Back_walk (x : Ent) (rest : ByteArray) (w : World) (hx : Wf x) (hs : rest.size ≤ 140737488355328) (he : Env w) : Calls Tryd.prog 4 #[valE x, .string rest] w fun y w' => y = .returned (.bool true) ∧ Below w.heap.size w w' := by
  have HE := Lib.hid he
  have HFa := Lib.hid (fun W (hW : Env W) => fact_any W hW)
  have HD2 := Lib.hid (fun W (hW : Env W) => Decode_any rest W (by unfold maxLen; omega) hW)
  have hB0 : ∀ v, Below w.heap.size w (w.alloc (.cells v 23)) := fun v => (Below.refl _ w).alloc (Nat.le_refl _) _
  have HB0 := Lib.hid hB0
  clear hB0 he
  by_cases hc : chk x = 0
  · have ho := chk_ok.1 hc
    have hl := encL_len ho
    have HEn := Lib.hid (fun W (hW : Env W) => Encode_ok x W ho hW)
    have hsz := size_mk (encL x)
    have HDe := Lib.hid (fun (W : World) (hW : Env W) => Decode_enc x (bl rest) (mk (encL x) ++ rest) W ho (by rw [bl_append, bl_mk]) (by rw [← size_bl, bl_append, bl_mk, List.length_append, size_bl]; unfold maxLen; omega) hW)
    rw [← hsz] at HDe hl
    have hbe := fun W => run_eqE x x W
    rw [eqE_refl] at hbe
    obtain ⟨S, hS⟩ : ∃ S, mk (encL x) = S := ⟨_, rfl⟩
    rw [hS] at HEn HDe hl
    obtain ⟨nn, tt, kk, xx⟩ := x
    unfold valE at HEn HDe hbe ⊢
    simp only at HEn HDe hbe ⊢
    obtain ⟨hl1, hl2⟩ := hl
    have n1 : ¬ 9223372036854775807 < S.size + rest.size := by omega
    clear hc ho hS hsz
    go_enter Tryd.func4, Tryd.ntmps4
    go_wp2_with fail
    refine (HFa.out _ (HE.out.below (HB0.out _))).mono ?_
    rintro e w1 ⟨rfl, hb1⟩
    have B1 := bstep (HB0.out _) hb1
    obtain ⟨c1, f1⟩ := bcell hb1
    have z1 : w.heap.size < w1.heap.size := by have := hb1.size; simp at this; omega
    go_wp2_with fail
    refine (HEn.out _ (HE.out.below B1)).mono ?_
    rintro e w2 ⟨rfl, hb2⟩
    have B2 := bstep B1 hb2
    obtain ⟨c2, f2⟩ := bcell hb2
    have z2 : w.heap.size < w2.heap.size := by have := hb2.size; omega
    go_wp2_with fail
    refine (HDe.out _ (HE.out.below B2)).mono ?_
    rintro e w3 ⟨rfl, hb3⟩
    have B3 := bstep B2 hb3
    obtain ⟨c3, f3⟩ := bcell hb3
    have z3 : w.heap.size < w3.heap.size := by have := hb3.size; omega
    have D3 := B3.alloc B3.size (.cells #[.int .i64 nn, .int .i64 tt, .string kk, .string xx] 23)
    go_wp2_with fail
    refine (HD2.out _ (HE.out.below (D3))).mono ?_
    rintro e w4 hres
    unfold DecAll DecR valE zeroE at hres
    rcases hres with ⟨y, r, ho2, hr2, rfl, hb4⟩ | ⟨c, hc, -, rfl, hb4⟩
    · have B4 := bstep (D3) hb4
      have HEn2 := Lib.hid (fun W (hW : Env W) => Encode_ok y W ho2 hW)
      have hps : hasPrefix (bl rest) (bl (mk (encL y))) = true := by rw [bl_mk, hr2]; simp [hasPrefix]
      have hsz2 : (rest.size : Int) - (r.length : Int) = ((mk (encL y)).size : Int) := by rw [size_mk, ← size_bl, hr2, List.length_append]; omega
      obtain ⟨S2, hS2⟩ : ∃ S, mk (encL y) = S := ⟨_, rfl⟩
      rw [hS2] at HEn2 hps hsz2
      rw [hsz2]
      have HPx := Lib.hid (fun W => Prefix_any rest S2 W)
      rw [hps] at HPx
      obtain ⟨yn, yt, yk, yx⟩ := y
      unfold valE at HEn2
      simp only at HEn2 ⊢
      clear hr2 hps hsz2 hS2 ho2
      have D4 := B4.alloc B4.size (.cells #[.int .i64 yn, .int .i64 yt, .string yk, .string yx] 23)
      go_wp2_with fail
      refine (HEn2.out _ (HE.out.below D4)).mono ?_
      rintro e w9 ⟨rfl, hb9⟩
      have B9 := bstep D4 hb9
      go_wp2_with (go_at_call 13; refine (HPx.out _).mono ?_; rintro e w10 ⟨rfl, rfl⟩)
      go_ret
      exact ⟨rfl, B9⟩
    · have B4 := bstep (D3) hb4
      have hbe := fun W => run_eqE zeroE zeroE W
      rw [eqE_refl] at hbe
      unfold valE zeroE at hbe
      simp only at hbe
      have d1 : (c == 0) = false := by simp [hc]
      have d2 : (c != 0) = true := by simp [hc]
      clear hc
      go_wp2
      go_ret
      exact ⟨rfl, B4.alloc B4.size _⟩
  · have HEn := Lib.hid (fun W => Encode_no x W hx hc)
    obtain ⟨c, hcc⟩ : ∃ c, chk x = c := ⟨_, rfl⟩
    rw [hcc] at HEn hc
    have d1 : (c == 0) = false := by simp [hc]
    have d2 : (c != 0) = true := by simp [hc]
    obtain ⟨nn, tt, kk, xx⟩ := x
    unfold valE at HEn ⊢
    simp only at HEn ⊢
    clear hc hcc
    go_enter Tryd.func4, Tryd.ntmps4
    go_wp2_with fail
    refine (HFa.out _ (HE.out.below (HB0.out _))).mono ?_
    rintro e w1 ⟨rfl, hb1⟩
    have B1 := bstep (HB0.out _) hb1
    obtain ⟨c1, f1⟩ := bcell hb1
    go_wp2_with fail
    refine (HEn.out _).mono ?_
    rintro e w2 ⟨rfl, hb2⟩
    have B2 := bstep B1 hb2
    go_wp2_with fail
    refine (HD2.out _ (HE.out.below (B2))).mono ?_
    rintro e w4 hres
    unfold DecAll DecR valE zeroE at hres
    rcases hres with ⟨y, r, ho2, hr2, rfl, hb4⟩ | ⟨c, hc, -, rfl, hb4⟩
    · have B4 := bstep (B2) hb4
      have HEn2 := Lib.hid (fun W (hW : Env W) => Encode_ok y W ho2 hW)
      have hps : hasPrefix (bl rest) (bl (mk (encL y))) = true := by rw [bl_mk, hr2]; simp [hasPrefix]
      have hsz2 : (rest.size : Int) - (r.length : Int) = ((mk (encL y)).size : Int) := by rw [size_mk, ← size_bl, hr2, List.length_append]; omega
      obtain ⟨S2, hS2⟩ : ∃ S, mk (encL y) = S := ⟨_, rfl⟩
      rw [hS2] at HEn2 hps hsz2
      rw [hsz2]
      have HPx := Lib.hid (fun W => Prefix_any rest S2 W)
      rw [hps] at HPx
      obtain ⟨yn, yt, yk, yx⟩ := y
      unfold valE at HEn2
      simp only at HEn2 ⊢
      clear hr2 hps hsz2 hS2 ho2
      have D4 := B4.alloc B4.size (.cells #[.int .i64 yn, .int .i64 yt, .string yk, .string yx] 23)
      go_wp2_with fail
      refine (HEn2.out _ (HE.out.below D4)).mono ?_
      rintro e w9 ⟨rfl, hb9⟩
      have B9 := bstep D4 hb9
      go_wp2_with (go_at_call 13; refine (HPx.out _).mono ?_; rintro e w10 ⟨rfl, rfl⟩)
      go_ret
      exact ⟨rfl, B9⟩
    · have B4 := bstep (B2) hb4
      have hbe := fun W => run_eqE zeroE zeroE W
      rw [eqE_refl] at hbe
      unfold valE zeroE at hbe
      simp only at hbe
      have d1 : (c == 0) = false := by simp [hc]
      have d2 : (c != 0) = true := by simp [hc]
      clear hc
      go_wp2
      go_ret
      exact ⟨rfl, B4.alloc B4.size _⟩
end Go.Proofs.YtahdjndpefclkaaDoor
