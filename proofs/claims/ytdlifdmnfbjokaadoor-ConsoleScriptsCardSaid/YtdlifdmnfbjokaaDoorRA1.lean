/- The library's functions at this program. -/
import Derived.Test.YtdlifdmnfbjokaaDoorRP2
import Derived.Test.YtdlifdmnfbjokaaDoorSh
import Derived.Test.YtdlifdmnfbjokaaDoorMore
import Derived.Lib.AtoiErrMem
import Derived.Lib.AppendIntMem
import Derived.Lib.SmallJoins
import Derived.Handy
import Derived.Lib.Split
import Derived.Lib.SplitLaws
namespace Go.Proofs.YtdlifdmnfbjokaaDoor
open Go.RowKit
open Go.Lib hiding intOf

def mk (l : L8) : ByteArray := ⟨l.toArray⟩
theorem bl_mk (l : L8) : bl (mk l) = l := by simp [bl, mk]
theorem mk_bl (s : ByteArray) : mk (bl s) = s := bl_inj (bl_mk _)
theorem size_bl (s : ByteArray) : (bl s).length = s.size := by simp [bl]
theorem size_mk (l : L8) : (mk l).size = l.length := by rw [← size_bl, bl_mk]
theorem ba_beqR {x y : ByteArray} : (x.toList == y.toList) = (bl x == bl y) := by rw [ByteArray.toList_eq, ByteArray.toList_eq]
theorem toList_mk (l : L8) : (mk l).toList = l := by rw [ByteArray.toList_eq]; exact bl_mk l
theorem bl_append (x y : ByteArray) : bl (x ++ y) = bl x ++ bl y := by simp [bl]

/-- What the library's functions read of the memory: a table, two sentinels, a number. -/
structure Env (w : World) : Prop where
  tab : TabIs Tryd.prog w "internal/strconv.uint64pow10" .u64 pow10Tab
  syn : ∃ tp p, w.var? Tryd.prog "strconv.ErrSyntax" = some #[.iface tp p]
  rng : ∃ tp p, w.var? Tryd.prog "strconv.ErrRange" = some #[.iface tp p]
  most : ∃ m, w.cell? ⟨2, 0, none⟩ = some (.int .i64 m)

theorem gPow : Tryd.prog.globalNamed "internal/strconv.uint64pow10" = some 3 := by kernel_rfl
theorem gSyn : Tryd.prog.globalNamed "strconv.ErrSyntax" = some 0 := by kernel_rfl
theorem gRng : Tryd.prog.globalNamed "strconv.ErrRange" = some 1 := by kernel_rfl

theorem var_below {n : String} {g : Nat} {vs : Array Value} {w w' : World} (hg : Tryd.prog.globalNamed n = some g) (h : w.var? Tryd.prog n = some vs) (hb : Below w.heap.size w w') : w'.var? Tryd.prog n = some vs := by
  unfold World.var? at h ⊢
  rw [hg] at h ⊢
  simp only [Option.bind_some] at h ⊢
  have hlt : g < w.heap.size := by
    rcases Nat.lt_or_ge g w.heap.size with h' | h'
    · exact h'
    · rw [Array.getElem?_eq_none h'] at h; cases h
  rw [hb.block g hlt]
  exact h

theorem Env.below {w w' : World} (h : Env w) (hb : Below w.heap.size w w') : Env w' := by
  obtain ⟨h1, ⟨t2, p2, h2⟩, ⟨t3, p3, h3⟩, m, h4⟩ := h
  refine ⟨var_below gPow h1 hb, ⟨t2, p2, var_below gSyn h2 hb⟩, ⟨t3, p3, var_below gRng h3 hb⟩, m, ?_⟩
  rw [hb.cell (p := ⟨2, 0, none⟩) (lt_of_cell h4)]
  exact h4

theorem Itoa_any (n : Int) (w : World) (h0 : -9223372036854775808 ≤ n) (h1 : n ≤ 9223372036854775807) (he : Env w) :
    Calls Tryd.prog 13 #[.int .i64 n] w fun e w' => e = .returned (.string (mk (itoa n))) ∧ Below w.heap.size w w' := by
  refine (Any.strconv_Itoa Tryd.lays171 n h0 h1 w he.1).mono ?_
  rintro e w' ⟨rfl, k, os, rfl⟩
  exact ⟨rfl, below_grow _ _ (Nat.le_refl _) _ _⟩

theorem Atoi_all (s : ByteArray) (w : World) (hs : s.size ≤ 2000000) (he : Env w) :
    Calls Tryd.prog 15 #[.string s] w fun e w' => (match atoiAll (bl s) with
      | .ok v => e = .returned (.tuple #[.int .i64 v, .nilIface])
      | _ => ∃ v N t, e = .returned (.tuple #[.int .i64 v, .iface t (.pointer (some ⟨N, 0, none⟩))])) ∧ Below w.heap.size w w' := by
  rcases h : atoiAll (bl s) with v | _ | _
  · refine (Any.strconv_Atoi_ok Tryd.lays172 s (by omega) v h w).mono ?_
    rintro e w' ⟨rfl, rfl | ⟨t, rfl⟩⟩
    · exact ⟨rfl, Below.refl _ _⟩
    · exact ⟨rfl, bytesWorld_below _ _ _⟩
  · obtain ⟨tp, p, hv⟩ := he.syn
    refine (Any.strconv_Atoi_syntax_var Tryd.lays172 s (by omega) h tp p w hv).mono ?_
    rintro e w' ⟨N, rfl, _, _, hb⟩
    exact ⟨⟨_, N, _, rfl⟩, hb⟩
  · obtain ⟨tp, p, hv⟩ := he.rng
    refine (Any.strconv_Atoi_range_var Tryd.lays172 s (by omega) h tp p w hv).mono ?_
    rintro e w' ⟨N, rfl, _, _, hb⟩
    exact ⟨⟨_, N, _, rfl⟩, hb⟩

theorem Split_any (s c : ByteArray) (w : World) (hc : c.size = 1) (hs : s.size ≤ 2000000) (he : Env w) :
    Calls Tryd.prog 10 #[.string s, .string c] w fun e w' => e = .returned (.slice (some ⟨w.heap.size, 0, none⟩) (splitB c 0 (countB s c) s).length (splitB c 0 (countB s c) s).length) ∧ w' = w.alloc (.cells ((splitB c 0 (countB s c) s).map Value.string).toArray 9) := by
  obtain ⟨m, hm⟩ := he.most
  have hl : (splitB c 0 (countB s c) s).length = countB s c + 1 := splitB_all c (by omega) 0 _ s rfl
  rw [hl]
  exact Any.strings_Split Tryd.lays146 (by kernel_rfl) s c m w (by omega) hm (by omega)
end Go.Proofs.YtdlifdmnfbjokaaDoor
