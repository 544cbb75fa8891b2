/- The library's functions at this program; Sum, small. -/
import Derived.Test.YtbbklfjgojjlhaaDoorRP2
import Derived.Test.YtbbklfjgojjlhaaDoorSh
import Derived.Test.YtbbklfjgojjlhaaDoorMore
import Derived.Lib.AtoiErrMem
import Derived.Lib.AppendIntMem
import Derived.Lib.SmallJoins
import Derived.Handy
namespace Go.Proofs.YtbbklfjgojjlhaaDoor
open Go.RowKit
open Go.Lib hiding intOf

def mk (l : L8) : ByteArray := ⟨l.toArray⟩
theorem bl_mk (l : L8) : bl (mk l) = l := by simp [bl, mk]
theorem mk_bl (s : ByteArray) : mk (bl s) = s := bl_inj (bl_mk _)
theorem size_bl (s : ByteArray) : (bl s).length = s.size := by simp [bl]
theorem size_mk (l : L8) : (mk l).size = l.length := by rw [← size_bl, bl_mk]
theorem ba_beqR {x y : ByteArray} : (x.toList == y.toList) = (bl x == bl y) := by rw [ByteArray.toList_eq, ByteArray.toList_eq]
theorem toList_mk (l : L8) : (mk l).toList = l := by rw [ByteArray.toList_eq]; exact bl_mk l
theorem bl_append (x y : ByteArray) : bl (x ++ y) = bl x ++ bl y := by simp [bl]

/-- What the library's functions read of the memory: a table, two sentinels, a number. -/
structure Env (w : World) : Prop where
  tab : TabIs Tryd.prog w "internal/strconv.uint64pow10" .u64 pow10Tab
  syn : ∃ tp p, w.var? Tryd.prog "strconv.ErrSyntax" = some #[.iface tp p]
  rng : ∃ tp p, w.var? Tryd.prog "strconv.ErrRange" = some #[.iface tp p]
  most : ∃ m, w.cell? ⟨0, 0, none⟩ = some (.int .i64 m)

theorem gPow : Tryd.prog.globalNamed "internal/strconv.uint64pow10" = some 5 := by kernel_rfl
theorem gSyn : Tryd.prog.globalNamed "strconv.ErrSyntax" = some 3 := by kernel_rfl
theorem gRng : Tryd.prog.globalNamed "strconv.ErrRange" = some 4 := by kernel_rfl

theorem var_below {n : String} {g : Nat} {vs : Array Value} {w w' : World} (hg : Tryd.prog.globalNamed n = some g) (h : w.var? Tryd.prog n = some vs) (hb : Below w.heap.size w w') : w'.var? Tryd.prog n = some vs := by
  unfold World.var? at h ⊢
  rw [hg] at h ⊢
  simp only [Option.bind_some] at h ⊢
  have hlt : g < w.heap.size := by
    rcases Nat.lt_or_ge g w.heap.size with h' | h'
    · exact h'
    · rw [Array.getElem?_eq_none h'] at h; cases h
  rw [hb.block g hlt]
  exact h

theorem Env.below {w w' : World} (h : Env w) (hb : Below w.heap.size w w') : Env w' := by
  obtain ⟨h1, ⟨t2, p2, h2⟩, ⟨t3, p3, h3⟩, m, h4⟩ := h
  refine ⟨var_below gPow h1 hb, ⟨t2, p2, var_below gSyn h2 hb⟩, ⟨t3, p3, var_below gRng h3 hb⟩, m, ?_⟩
  rw [hb.cell (p := ⟨0, 0, none⟩) (lt_of_cell h4)]
  exact h4

theorem Itoa_any (n : Int) (w : World) (h0 : -9223372036854775808 ≤ n) (h1 : n ≤ 9223372036854775807) (he : Env w) :
    Calls Tryd.prog 35 #[.int .i64 n] w fun e w' => e = .returned (.string (mk (itoa n))) ∧ Below w.heap.size w w' := by
  refine (Any.strconv_Itoa Tryd.lays171 n h0 h1 w he.1).mono ?_
  rintro e w' ⟨rfl, k, os, rfl⟩
  exact ⟨rfl, below_grow _ _ (Nat.le_refl _) _ _⟩

theorem Cut1_any (s : ByteArray) (c : ByteArray) (w : World) (hs : s.size ≤ 1000) (he : Env w) :
    Calls Tryd.prog 22 #[.string s, .string c] w fun e w' => e = .returned (.tuple #[.string (mk (cut (bl s) (bl c)).1), .string (mk (cut (bl s) (bl c)).2.1), .bool (cut (bl s) (bl c)).2.2]) ∧ Below w.heap.size w w' := by
  obtain ⟨m, hm⟩ := he.most
  refine (Any.strings_Cut Tryd.lays145 s c m w (by omega) hm).mono ?_
  rintro e w' ⟨rfl, n, rfl⟩
  exact ⟨rfl, below_drewN (Below.refl _ _) n⟩

theorem Atoi_all (s : ByteArray) (w : World) (hs : s.size ≤ 1000) (he : Env w) :
    Calls Tryd.prog 47 #[.string s] w fun e w' => (match atoiAll (bl s) with
      | .ok v => e = .returned (.tuple #[.int .i64 v, .nilIface])
      | _ => ∃ v N t, e = .returned (.tuple #[.int .i64 v, .iface t (.pointer (some ⟨N, 0, none⟩))])) ∧ Below w.heap.size w w' := by
  rcases h : atoiAll (bl s) with v | _ | _
  · refine (Any.strconv_Atoi_ok Tryd.lays172 s (by omega) v h w).mono ?_
    rintro e w' ⟨rfl, rfl | ⟨t, rfl⟩⟩
    · exact ⟨rfl, Below.refl _ _⟩
    · exact ⟨rfl, bytesWorld_below _ _ _⟩
  · obtain ⟨tp, p, hv⟩ := he.syn
    refine (Any.strconv_Atoi_syntax_var Tryd.lays172 s (by omega) h tp p w hv).mono ?_
    rintro e w' ⟨N, rfl, _, _, hb⟩
    exact ⟨⟨_, N, _, rfl⟩, hb⟩
  · obtain ⟨tp, p, hv⟩ := he.rng
    refine (Any.strconv_Atoi_range_var Tryd.lays172 s (by omega) h tp p w hv).mono ?_
    rintro e w' ⟨N, rfl, _, _, hb⟩
    exact ⟨⟨_, N, _, rfl⟩, hb⟩

def lowS (s : ByteArray) : Bool := (bl s).all lower

theorem take_snoc (s : ByteArray) (k : Nat) (h : k < s.size) : (bl s).take (k + 1) = (bl s).take k ++ [s[k]] := by
  rw [List.take_succ_eq_append_getElem (by simpa using h)]; rfl

set_option maxRecDepth 100000 in
set_option maxHeartbeats 1000000 in
theorem small_any (s : ByteArray) (w : World) (hs : s.size ≤ maxLen) :
    Calls Tryd.prog 30 #[.string s] w fun e w' => e = .returned (.bool (lowS s)) ∧ w = w' := by
  unfold maxLen at hs
  go_enter Tryd.func30, Tryd.ntmps30
  go_wp2
  go_loop [3, 6] (fun _ i => ∃ k : Nat, k ≤ s.size ∧ i = .int .i64 (k : Int) ∧ Hid (((bl s).take k).all lower = true)) (fun _ i => s.size - (intOf i).toNat)
  case atStart => exact ⟨0, by omega, rfl, Lib.hid (by simp)⟩
  case round =>
    obtain ⟨k, hk, rfl, HA⟩ := hrel
    by_cases hlt : k < s.size
    · have hts := take_snoc s k hlt
      have hmem : s[k] ∈ bl s := by
        have : (bl s)[k]'(by rw [size_bl]; exact hlt) = s[k] := rfl
        rw [← this]; exact List.getElem_mem _
      have hcb := UInt8.toNat_lt s[k]
      by_cases hl : lower s[k] = true
      · have hn : ((bl s).take (k + 1)).all lower = true := by rw [hts, List.all_append, HA.out]; simp [hl]
        have HN := Lib.hid hn
        unfold lower at hl
        simp only [Bool.and_eq_true, decide_eq_true_eq] at hl
        obtain ⟨a1, a2⟩ := hl
        clear hts hn hmem
        go_wp2
        go_round
        case rel => exact ⟨k + 1, by omega, by go_num, HN⟩
        case measure => simp [intOf]; omega
      · have hf : lowS s = false := by
          rw [Bool.eq_false_iff]; intro h
          exact hl (List.all_eq_true.1 h _ hmem)
        have HF := Lib.hid hf
        unfold lower at hl
        simp only [Bool.and_eq_true, decide_eq_true_eq, not_and] at hl
        by_cases h1 : 97 ≤ s[k].toNat
        · have h2 : ¬ s[k].toNat ≤ 122 := hl h1
          clear hts hf hmem hl
          go_wp2
          go_ret
          exact ⟨by rw [HF.out]; rfl, rfl⟩
        · clear hts hf hmem hl
          go_wp2
          go_ret
          exact ⟨by rw [HF.out]; rfl, rfl⟩
    · obtain rfl : s.size = k := by omega
      have hf : lowS s = true := by
        have := HA.out
        rw [List.take_of_length_le (by rw [size_bl]; omega)] at this
        exact this
      have HF := Lib.hid hf
      clear hf
      go_wp2
      go_ret
      exact ⟨by rw [HF.out]; rfl, rfl⟩
end Go.Proofs.YtbbklfjgojjlhaaDoor
