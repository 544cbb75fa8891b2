/- The library's functions at this program; Sum, small. -/
import Derived.Test.YtjmdebeffpdpcaaGreatDoorP2
import Derived.Test.YtjmdebeffpdpcaaGreatDoorSh
import Derived.Test.YtjmdebeffpdpcaaGreatDoorMore
import Derived.Lib.AtoiErrMem
import Derived.Shelf.Strconv.ErrVar
import Derived.Shelf.Strconv.Atoi
import Derived.Lib.AppendIntMem
import Derived.Lib.SmallJoins
import Derived.Handy
namespace Go.Proofs.YtjmdebeffpdpcaaGreatDoor
open Go.RowKit
open Go.Lib hiding intOf

def mk (l : L8) : ByteArray := ⟨l.toArray⟩
theorem bl_mk (l : L8) : bl (mk l) = l := by simp [bl, mk]
theorem mk_bl (s : ByteArray) : mk (bl s) = s := bl_inj (bl_mk _)
theorem size_bl (s : ByteArray) : (bl s).length = s.size := by simp [bl]
theorem size_mk (l : L8) : (mk l).size = l.length := by rw [← size_bl, bl_mk]
theorem ba_beqR {x y : ByteArray} : (x.toList == y.toList) = (bl x == bl y) := by rw [ByteArray.toList_eq, ByteArray.toList_eq]
theorem toList_mk (l : L8) : (mk l).toList = l := by rw [ByteArray.toList_eq]; exact bl_mk l
theorem bl_append (x y : ByteArray) : bl (x ++ y) = bl x ++ bl y := by simp [bl]

/-- What the library's functions read of the memory: a table, two sentinels, a number. -/
structure Env (w : World) : Prop where
  tab : TabIs Tryz.prog w "internal/strconv.uint64pow10" .u64 pow10Tab
  syn : ∃ tp p, w.var? Tryz.prog "strconv.ErrSyntax" = some #[.iface tp p]
  rng : ∃ tp p, w.var? Tryz.prog "strconv.ErrRange" = some #[.iface tp p]
  most : ∃ m, w.cell? ⟨0, 0, none⟩ = some (.int .i64 m)

theorem gPow : Tryz.prog.globalNamed "internal/strconv.uint64pow10" = some 1 := by kernel_rfl
theorem gSyn : Tryz.prog.globalNamed "strconv.ErrSyntax" = some 2 := by kernel_rfl
theorem gRng : Tryz.prog.globalNamed "strconv.ErrRange" = some 3 := by kernel_rfl

theorem var_below {n : String} {g : Nat} {vs : Array Value} {w w' : World} (hg : Tryz.prog.globalNamed n = some g) (h : w.var? Tryz.prog n = some vs) (hb : Below w.heap.size w w') : w'.var? Tryz.prog n = some vs := by
  unfold World.var? at h ⊢
  rw [hg] at h ⊢
  simp only [Option.bind_some] at h ⊢
  have hlt : g < w.heap.size := by
    rcases Nat.lt_or_ge g w.heap.size with h' | h'
    · exact h'
    · rw [Array.getElem?_eq_none h'] at h; cases h
  rw [hb.block g hlt]
  exact h

theorem Env.below {w w' : World} (h : Env w) (hb : Below w.heap.size w w') : Env w' := by
  obtain ⟨h1, ⟨t2, p2, h2⟩, ⟨t3, p3, h3⟩, m, h4⟩ := h
  refine ⟨var_below gPow h1 hb, ⟨t2, p2, var_below gSyn h2 hb⟩, ⟨t3, p3, var_below gRng h3 hb⟩, m, ?_⟩
  rw [hb.cell (p := ⟨0, 0, none⟩) (lt_of_cell h4)]
  exact h4

theorem Itoa_int (n : Int) (w : World) (h0 : -9223372036854775808 ≤ n) (h1 : n ≤ 9223372036854775807) (he : Env w) :
    Calls Tryz.prog 33 #[.int .i64 n] w fun e w' => e = .returned (.string (mk (itoa n))) ∧ Below w.heap.size w w' := by
  refine (Any.strconv_Itoa Tryz.lays171 n h0 h1 w he.1).mono ?_
  rintro e w' ⟨rfl, k, os, rfl⟩
  exact ⟨rfl, below_grow _ _ (Nat.le_refl _) _ _⟩

theorem Cut1_any (s : ByteArray) (c : ByteArray) (w : World) (hs : s.size ≤ 1000) (he : Env w) :
    Calls Tryz.prog 27 #[.string s, .string c] w fun e w' => e = .returned (.tuple #[.string (mk (cut (bl s) (bl c)).1), .string (mk (cut (bl s) (bl c)).2.1), .bool (cut (bl s) (bl c)).2.2]) ∧ Below w.heap.size w w' := by
  obtain ⟨m, hm⟩ := he.most
  refine (Any.strings_Cut Tryz.lays145 s c m w (by omega) hm).mono ?_
  rintro e w' ⟨rfl, n, rfl⟩
  exact ⟨rfl, below_drewN (Below.refl _ _) n⟩

theorem Atoi_all (s : ByteArray) (w : World) (hs : s.size ≤ 1000) (he : Env w) :
    Calls Tryz.prog 53 #[.string s] w fun e w' => (match atoiAll (bl s) with
      | .ok v => e = .returned (.tuple #[.int .i64 v, .nilIface])
      | _ => ∃ v N t, e = .returned (.tuple #[.int .i64 v, .iface t (.pointer (some ⟨N, 0, none⟩))])) ∧ Below w.heap.size w w' := by
  rcases h : atoiAll (bl s) with v | _ | _
  · refine (Any.strconv_Atoi_ok Tryz.lays172 s (by omega) v h w).mono ?_
    rintro e w' ⟨rfl, rfl | ⟨t, rfl⟩⟩
    · exact ⟨rfl, Below.refl _ _⟩
    · exact ⟨rfl, bytesWorld_below _ _ _⟩
  · obtain ⟨tp, p, hv⟩ := he.syn
    refine (Any.strconv_Atoi_syntax_var Tryz.lays172 s (by omega) h tp p w hv).mono ?_
    rintro e w' ⟨N, rfl, _, _, hb⟩
    exact ⟨⟨_, N, _, rfl⟩, hb⟩
  · obtain ⟨tp, p, hv⟩ := he.rng
    refine (Any.strconv_Atoi_range_var Tryz.lays172 s (by omega) h tp p w hv).mono ?_
    rintro e w' ⟨N, rfl, _, _, hb⟩
    exact ⟨⟨_, N, _, rfl⟩, hb⟩

def lowS (s : ByteArray) : Bool := (bl s).all lower

theorem take_snoc (s : ByteArray) (k : Nat) (h : k < s.size) : (bl s).take (k + 1) = (bl s).take k ++ [s[k]] := by
  rw [List.take_succ_eq_append_getElem (by simpa using h)]; rfl

set_option maxRecDepth 100000 in
set_option maxHeartbeats 1000000 in
theorem small_any (s : ByteArray) (w : World) (hs : s.size ≤ maxLen) :
    Calls Tryz.prog 45 #[.string s] w fun e w' => e = .returned (.bool (lowS s)) ∧ w = w' := by
  unfold maxLen at hs
  go_enter Tryz.func45, Tryz.ntmps45
  go_wp2
  go_loop [3, 6] (fun _ i => ∃ k : Nat, k ≤ s.size ∧ i = .int .i64 (k : Int) ∧ Hid (((bl s).take k).all lower = true)) (fun _ i => s.size - (intOf i).toNat)
  case atStart => exact ⟨0, by omega, rfl, Lib.hid (by simp)⟩
  case round =>
    obtain ⟨k, hk, rfl, HA⟩ := hrel
    by_cases hlt : k < s.size
    · have hts := take_snoc s k hlt
      have hmem : s[k] ∈ bl s := by
        have : (bl s)[k]'(by rw [size_bl]; exact hlt) = s[k] := rfl
        rw [← this]; exact List.getElem_mem _
      have hcb := UInt8.toNat_lt s[k]
      by_cases hl : lower s[k] = true
      · have hn : ((bl s).take (k + 1)).all lower = true := by rw [hts, List.all_append, HA.out]; simp [hl]
        have HN := Lib.hid hn
        unfold lower at hl
        simp only [Bool.and_eq_true, decide_eq_true_eq] at hl
        obtain ⟨a1, a2⟩ := hl
        clear hts hn hmem
        go_wp2
        go_round
        case rel => exact ⟨k + 1, by omega, by go_num, HN⟩
        case measure => simp [intOf]; omega
      · have hf : lowS s = false := by
          rw [Bool.eq_false_iff]; intro h
          exact hl (List.all_eq_true.1 h _ hmem)
        have HF := Lib.hid hf
        unfold lower at hl
        simp only [Bool.and_eq_true, decide_eq_true_eq, not_and] at hl
        by_cases h1 : 97 ≤ s[k].toNat
        · have h2 : ¬ s[k].toNat ≤ 122 := hl h1
          clear hts hf hmem hl
          go_wp2
          go_ret
          exact ⟨by rw [HF.out]; rfl, rfl⟩
        · clear hts hf hmem hl
          go_wp2
          go_ret
          exact ⟨by rw [HF.out]; rfl, rfl⟩
    · obtain rfl : s.size = k := by omega
      have hf : lowS s = true := by
        have := HA.out
        rw [List.take_of_length_le (by rw [size_bl]; omega)] at this
        exact this
      have HF := Lib.hid hf
      clear hf
      go_wp2
      go_ret
      exact ⟨by rw [HF.out]; rfl, rfl⟩
theorem Itoa_any (n : Nat) (w : World) (hn : n ≤ 9223372036854775807) (he : Env w) :
    Calls Tryz.prog 33 #[.int .i64 (n : Int)] w fun e w' => e = .returned (.string (mk (decDigits n))) ∧ Below w.heap.size w w' := by
  refine (Any.strconv_Itoa Tryz.lays171 (n : Int) (by omega) (by omega) w he.1).mono ?_
  rintro e w' ⟨rfl, k, os, rfl⟩
  rw [itoa_nonneg]
  exact ⟨rfl, below_grow _ _ (Nat.le_refl _) _ _⟩

theorem Index_any (s : ByteArray) (c : UInt8) (w : World) :
    Calls Tryz.prog 36 #[.string s, .string ⟨#[c]⟩] w fun e w' => e = .returned (.int .i64 (indexByte (bl s) c)) ∧ w = w' :=
  (Any.strings_Index_one Tryz.lays143 s c w).mono fun _ _ h => ⟨h.1, h.2.symm⟩

theorem Atoi_ok (s : ByteArray) (n : Int) (w : World) (hl : s.size ≤ 18) (h : atoi (bl s) = some n) :
    Calls Tryz.prog 53 #[.string s] w fun e w' => e = .returned (.tuple #[.int .i64 n, .nilIface]) ∧ Below w.heap.size w w' := by
  refine (Any.strconv_Atoi { Tryz.lays172 with } s n hl h w).mono ?_
  rintro e w' ⟨rfl, t, rfl⟩
  exact ⟨rfl, bytesWorld_below _ _ _⟩

theorem Atoi_no (s : ByteArray) (w : World) (hl : s.size ≤ 18) (h : atoi (bl s) = none) (he : Env w) :
    Calls Tryz.prog 53 #[.string s] w fun e w' => (∃ N t, e = .returned (.tuple #[.int .i64 0, .iface t (.pointer (some ⟨N, 0, none⟩))])) ∧ Below w.heap.size w w' := by
  obtain ⟨tp, p, hv⟩ := he.syn
  refine (Any.strconv_Atoi_err_var Tryz.lays172 s hl h tp p w hv).mono ?_
  rintro e w' ⟨N, rfl, _, _, hb⟩
  exact ⟨⟨N, _, rfl⟩, hb⟩

set_option maxRecDepth 100000 in
set_option maxHeartbeats 1000000 in
theorem Sum_any (s : ByteArray) (w : World) (hs : s.size ≤ maxLen) :
    Calls Tryz.prog 34 #[.string s] w fun e w' => e = .returned (.int .i64 ((sumL (bl s) : Nat) : Int)) ∧ w = w' := by
  unfold maxLen at hs
  go_enter Tryz.func34, Tryz.ntmps34
  go_wp2
  go_loop [3, 4, 5, 8] (fun a b _ i => ∃ k : Nat, k ≤ s.size ∧ i = .int .i64 (k : Int) ∧ a = .int .i64 (((((bl s).take k).foldl sumS (1, 0)).1 : Nat) : Int) ∧ b = .int .i64 (((((bl s).take k).foldl sumS (1, 0)).2 : Nat) : Int)) (fun _ _ _ i => s.size - (intOf i).toNat)
  case atStart => exact ⟨0, by omega, rfl, rfl, rfl⟩
  case round =>
    obtain ⟨k, hk, rfl, rfl, rfl⟩ := hrel
    have hbd := sumS_bd ((bl s).take k)
    by_cases hlt : k < s.size
    · have hts := take_snoc s k hlt
      have hst : ((bl s).take (k + 1)).foldl sumS (1, 0) = sumS (((bl s).take k).foldl sumS (1, 0)) s[k] := by rw [hts, List.foldl_append]; rfl
      obtain ⟨p, hp⟩ : ∃ p, ((bl s).take k).foldl sumS (1, 0) = p := ⟨_, rfl⟩
      rw [hp] at hst hbd ⊢
      obtain ⟨a, b⟩ := p
      have HST := Lib.hid hst
      have hcb := UInt8.toNat_lt s[k]
      clear hts hst hp
      simp only at hbd ⊢
      obtain ⟨h1, h2⟩ := hbd
      go_wp2
      go_round
      case rel =>
        refine ⟨k + 1, by omega, by go_num, ?_, ?_⟩
        · rw [HST.out]; simp only [sumS]; go_num
        · rw [HST.out]; simp only [sumS]; go_num
      case measure => simp [intOf]; omega
    · obtain rfl : s.size = k := by omega
      have htk : (bl s).take s.size = bl s := List.take_of_length_le (by rw [size_bl]; omega)
      rw [htk] at hbd ⊢
      obtain ⟨p, hp⟩ : ∃ p, (bl s).foldl sumS (1, 0) = p := ⟨_, rfl⟩
      have hq : sumL (bl s) = 256 * p.2 + p.1 := by unfold sumL; rw [hp]
      rw [hp] at hbd ⊢
      have HQ := Lib.hid hq
      clear htk hp hq
      go_wp2
      go_ret
      exact ⟨by rw [HQ.out]; exact ret_int (by omega), rfl⟩

end Go.Proofs.YtjmdebeffpdpcaaGreatDoor
