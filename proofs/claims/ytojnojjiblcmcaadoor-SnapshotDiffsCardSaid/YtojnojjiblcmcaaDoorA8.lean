/- Package snapshot: Digest. -/
import Derived.Test.YtojnojjiblcmcaaDoorA7
namespace Go.Proofs.YtojnojjiblcmcaaDoor
open Go.RowKit

/-- The number of a text: each byte is mixed in. -/
def mixH (n : Nat) (c : UInt8) : Nat := ((n ^^^ c.toNat) * 1099511628211) % 18446744073709551616
def fnv0 : Nat := 14695981039346656037
def fnvL (l : List UInt8) : Nat := l.foldl mixH fnv0
theorem mixH_lt (n : Nat) (c : UInt8) : mixH n c < 18446744073709551616 := Nat.mod_lt _ (by omega)
theorem fnvL_lt (l : List UInt8) : fnvL l < 18446744073709551616 := by
  unfold fnvL
  rcases List.eq_nil_or_concat l with h | ⟨m, x, h⟩
  · subst h
    rw [List.foldl_nil]
    unfold fnv0
    omega
  · subst h
    rw [List.concat_eq_append, List.foldl_append, List.foldl_cons, List.foldl_nil]
    exact mixH_lt _ _
theorem mix_walk (n : Nat) (c : UInt8) (hn : n < 18446744073709551616) : IntKind.u64.wrap (bits BinOp.xor IntKind.u64 (n : Int) (c.toNat : Int) * 1099511628211) = ((mixH n c : Nat) : Int) := by
  have hc := UInt8.toNat_lt c
  rw [bits_xor_u64_nat n c.toNat hn (by omega), IntKind.wrap_u64]
  unfold mixH
  omega

theorem fnv_step (l : List UInt8) {j : Nat} (hj : j < l.length) : fnvL (l.take (j + 1)) = mixH (fnvL (l.take j)) (l.getD j 0) := by
  unfold fnvL
  rw [List.take_succ_eq_append_getElem hj, List.foldl_append, List.foldl_cons, List.foldl_nil, List.getD_eq_getElem?_getD, List.getElem?_eq_getElem hj, Option.getD_some]
theorem fnv_start : ((fnvL [] : Nat) : Int) = 14695981039346656037 := by
  unfold fnvL
  rw [List.foldl_nil]
  unfold fnv0
  simp
end Go.Proofs.YtojnojjiblcmcaaDoor
