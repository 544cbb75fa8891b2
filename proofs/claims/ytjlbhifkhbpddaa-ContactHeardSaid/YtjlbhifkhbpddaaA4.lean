/- Package contact: On; words: Contains, IsSorted. -/
import Derived.Test.YtjlbhifkhbpddaaA3
import Derived.Test.YtjlbhifkhbpddaaSh
import Derived.Test.YtjlbhifkhbpddaaShG
namespace Go.Proofs.Ytjlbhifkhbpddaa
open Go.RowKit

def strE (s : ByteArray) : List Value := [.string s]
theorem strE_len (s : ByteArray) : (strE s).length = 1 := rfl
theorem str_info : (Try.prog.info? 9).map (fun i => (i.zero, i.size, i.bytes)) = some (some (.string ByteArray.empty), 1, 16) := by kernel_rfl

/-- The flights on a frequency. -/
def onL (l : List Cs) (f : Int) : List ByteArray := (l.filter fun x => x.2.1 == f).map (·.1)
theorem onL_step (l : List Cs) (f : Int) {k : Nat} (hk : k < l.length) : onL (l.take (k + 1)) f = if (l[k].2.1 == f) = true then onL (l.take k) f ++ [l[k].1] else onL (l.take k) f := by
  unfold onL
  rw [List.take_succ_eq_append_getElem hk, List.filter_append]
  by_cases h : (l[k].2.1 == f) = true
  · rw [if_pos h, List.filter_cons_of_pos (by simpa using h)]; simp
  · rw [if_neg h, List.filter_cons_of_neg (by simpa using h)]; simp
theorem onL_le (l : List Cs) (f : Int) (k : Nat) : (onL (l.take k) f).length ≤ k := by
  unfold onL
  rw [List.length_map]
  exact Nat.le_trans (List.length_filter_le _ _) (by rw [List.length_take]; omega)

def OnP (l : List Cs) (f : Int) (w : World) (e : Ending) (w' : World) : Prop :=
  ∃ A c, e = .returned (.slice A (onL l f).length c) ∧ w'.ownsRow w.heap.size 9 1 (.slice A (onL l f).length c) (onL l f).length (rowsV strE (onL l f)) ∧ Below w.heap.size w w'

set_option maxRecDepth 100000 in
set_option maxHeartbeats 4000000 in
theorem On_any {g : Nat} {v : Value} {l : List Cs} {w : World} (h : RadioAt g v l w) (hn : l.length ≤ 1000) (f : Int) : Calls Try.prog 9 #[.pointer (some ⟨g, 0, none⟩), .int .i64 f] w (OnP l f w) := by
  obtain ⟨i0, J0, J1, J2, J3⟩ := info_parts str_info
  obtain ⟨A, c, rfl⟩ := h.shape
  have c0 := h.cell
  have hrow := h.row
  have HR := Lib.hid hrow
  clear hrow h
  go_enter Try.func9, Try.ntmps9
  go_wp2
  go_loopw [5, 13] (fun v x wr => ∃ k m : Nat, k ≤ l.length ∧ m = (onL (l.take k) f).length ∧ x = .int .i64 k ∧ wr.ownsRow w.heap.size 9 1 v m (rowsV strE (onL (l.take k) f)) ∧ Below w.heap.size w wr) (fun _ x _ => l.length - (intOf x).toNat)
  case atStart => exact ⟨0, 0, by omega, rfl, rfl, World.ownsRow_nil _ _ _ _, Below.refl _ _⟩
  case round =>
    obtain ⟨k, m, hk, hm, rfl, hown, hbr⟩ := hrel
    obtain ⟨V, cv, rfl⟩ := own_shape hown
    have HOW := Lib.hid hown
    have HBR := Lib.hid hbr
    have HM := Lib.hid hm
    have hzr := hbr.size
    have hmk : m ≤ k := by rw [hm]; exact onL_le l f k
    clear hown hm
    by_cases hkn : k < l.length
    · obtain ⟨b, off, rfl, hb, hr⟩ := HR.out (by omega)
      have o0 : wr.cell? ⟨b, off + k * 3, none⟩ = some (.string (l[k]!).1) := (hbr.cell (p := ⟨b, _, none⟩) hb).trans (hr k hkn 0 _ rfl)
      have o1 : wr.cell? ⟨b, off + k * 3 + 1, none⟩ = some (.int .i64 (l[k]!).2.1) := (hbr.cell (p := ⟨b, _, none⟩) hb).trans (hr k hkn 1 _ rfl)
      have o2 : wr.cell? ⟨b, off + k * 3 + 2, none⟩ = some (.int .i64 (l[k]!).2.2) := (hbr.cell (p := ⟨b, _, none⟩) hb).trans (hr k hkn 2 _ rfl)
      have hst := onL_step l f hkn
      have hk0 : (0 : Int) ≤ (k : Int) := by omega
      have hk1 : (k : Int) < (l.length : Int) := by omega
      have hx : l[k]! = l[k] := getElem!_pos l k hkn
      rw [hx] at o0 o1 o2
      clear hr hx
      generalize l[k] = xx at *
      obtain ⟨xc, xf, xt⟩ := xx
      dsimp only at *
      cases hp : (xf == f) with
      | true =>
        rw [hp, if_pos rfl] at hst
        have HST := Lib.hid hst
        clear hst hbr
        go_wp2_with (at_builtin; go_loud (refine wpList_append_oneN (wr.alloc (.cells #[.string xc, .int .i64 xf, .int .i64 xt] 27)) (wr.heap.size + 1) (by simp) #[.string xc] rfl (.tmp 21) (.tmp 24) 31 rfl w.heap.size 9 i0 (.string ByteArray.empty) 1 16 Try.underlying31 J0 J1 J2 J3 rfl (by decide) (.slice V m cv) m _ rfl (HOW.out.alloc _) rfl rfl (by simp [Value.oneCell']) (by omega) (by decide) (by simp; omega) ?_); intro g3 cap3 w6 hv6 hg6 hat6 hlt6)
        go_roundw
        case rel => exact ⟨k + 1, m + 1, by omega, by rw [HST.out, List.length_append, ← HM.out]; rfl, by go_num, by rw [HST.out, rowsV_snoc]; exact hv6, below_app (HBR.out.alloc hzr _) (by simp; omega) (HOW.out.alloc _) (Nat.le_refl _) hg6⟩
        case measure => simp [intOf]; omega
      | false =>
        rw [hp, if_neg (by decide)] at hst
        have HST := Lib.hid hst
        clear hst hbr
        go_wp2
        go_roundw
        case rel => exact ⟨k + 1, m, by omega, by rw [HST.out]; exact HM.out, by go_num, by rw [HST.out]; exact HOW.out.alloc _, HBR.out.alloc hzr _⟩
        case measure => simp [intOf]; omega
    · obtain rfl : l.length = k := by omega
      have htk : l.take l.length = l := List.take_length
      have HT := Lib.hid htk
      clear htk hbr
      go_wp2
      go_ret
      have e1 := HM.out
      rw [HT.out] at e1
      subst e1
      exact ⟨V, cv, rfl, by have := HOW.out; rwa [HT.out] at this, HBR.out⟩
end Go.Proofs.Ytjlbhifkhbpddaa
