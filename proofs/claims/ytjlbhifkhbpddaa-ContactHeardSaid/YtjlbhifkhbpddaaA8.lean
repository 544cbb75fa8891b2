/- Package contact: Lost. -/
import Derived.Test.YtjlbhifkhbpddaaA7
namespace Go.Proofs.Ytjlbhifkhbpddaa
open Go.RowKit Go.Sort

set_option maxRecDepth 100000 in
set_option maxHeartbeats 2000000 in
theorem Stable_any (b c n base : Nat) (l : List Cs) (w : World) (h : w.ownsRow base 27 3 (.slice (some ⟨b, 0, none⟩) n c) n (css l)) (hn : l.length = n) (hN : n ≤ 12) :
    Calls Try.prog 22 #[.slice (some ⟨b, 0, none⟩) n c, .func (.func 23) #[] #[]] w (SortedP l b n w) := by
  have hs : Calls Try.prog 31 #[.slice (some ⟨b, 0, none⟩) n c, .int .i64 (n : Int), .func (.func 23) #[] #[]] w (SortedP l b n w) := by
    have HI := Lib.hid (InsSort_any b c n base l w h hn (by omega))
    clear h
    go_enter Try.func31, Try.ntmps31
    go_wp2
    go_loopw [7, 8] (fun x y wr => x = .int .i64 0 ∧ y = .int .i64 20 ∧ w = wr) (fun _ _ _ => 0)
    case atStart => exact ⟨rfl, rfl, rfl⟩
    case round =>
      obtain ⟨rfl, rfl, rfl⟩ := hrel
      go_wp2_with (go_at_call 33; go_loud (refine HI.out.mono ?_; rintro e w' ⟨rfl, hl, hb⟩; have HL := Lib.hid hl; have HB := Lib.hid hb; clear hl hb))
      go_loopw [6] (fun x wr => x = .int .i64 20 ∧ w' = wr) (fun _ _ => 0)
      case atStart => exact ⟨rfl, rfl⟩
      case round =>
        obtain ⟨rfl, rfl⟩ := hrel
        go_wp2
        go_end0
        exact ⟨rfl, HL.out, HB.out⟩
  have HS := Lib.hid hs
  clear hs h
  go_enter Try.func22, Try.ntmps22
  go_wp2_with (go_at_call 31; go_loud (refine HS.out.mono ?_; rintro e w' ⟨rfl, hl, hb⟩; have HL := Lib.hid hl; have HB := Lib.hid hb; clear hl hb))
  go_end0
  exact ⟨rfl, HL.out, HB.out⟩

set_option maxRecDepth 100000 in
set_option maxHeartbeats 2000000 in
theorem Stable_none (A : Option Addr) (c : Nat) (w : World) : Calls Try.prog 22 #[.slice A 0 c, .func (.func 23) #[] #[]] w fun e w' => e = .returned (.tuple #[]) ∧ w = w' := by
  have hi : ∀ W, Calls Try.prog 33 #[.slice A 0 c, .int .i64 0, .int .i64 0, .func (.func 23) #[] #[]] W fun e w' => e = .returned (.tuple #[]) ∧ W = w' := fun W => by
    go_enter Try.func33, Try.ntmps33
    go_wp2
    go_loop [8] (fun x => x = .int .i64 1) (fun _ => 0)
    case atStart => rfl
    case round =>
      obtain rfl := hrel
      go_wp2
      go_end0
      exact ⟨rfl, rfl⟩
  have HI := Lib.hid hi
  clear hi
  have hs : Calls Try.prog 31 #[.slice A 0 c, .int .i64 0, .func (.func 23) #[] #[]] w fun e w' => e = .returned (.tuple #[]) ∧ w = w' := by
    go_enter Try.func31, Try.ntmps31
    go_wp2
    go_loop [7, 8] (fun x y => x = .int .i64 0 ∧ y = .int .i64 20) (fun _ _ => 0)
    case atStart => exact ⟨rfl, rfl⟩
    case round =>
      obtain ⟨rfl, rfl⟩ := hrel
      go_wp2_with (go_at_call 33; go_loud (refine (HI.out _).mono ?_; rintro e w' ⟨rfl, rfl⟩))
      go_loop [6] (fun x => x = .int .i64 20) (fun _ => 0)
      case atStart => rfl
      case round =>
        obtain rfl := hrel
        go_wp2
        go_end0
        exact ⟨rfl, rfl⟩
  have HS := Lib.hid hs
  clear hs
  go_enter Try.func22, Try.ntmps22
  go_wp2_with (go_at_call 31; go_loud (refine HS.out.mono ?_; rintro e w' ⟨rfl, rfl⟩))
  go_end0
  exact ⟨rfl, rfl⟩

/-- What is lost. -/
def lostL (l : List Cs) (t lim : Int) : List Cs := l.filter fun x => decide (lim < t - x.2.2)
theorem lostL_step (l : List Cs) (t lim : Int) {k : Nat} (hk : k < l.length) : lostL (l.take (k + 1)) t lim = if lim < t - l[k].2.2 then lostL (l.take k) t lim ++ [l[k]] else lostL (l.take k) t lim := by
  unfold lostL
  rw [List.take_succ_eq_append_getElem hk, List.filter_append]
  by_cases h : lim < t - l[k].2.2
  · rw [if_pos h, List.filter_cons_of_pos (by simpa using h)]; simp
  · rw [if_neg h, List.filter_cons_of_neg (by simpa using h)]; simp
theorem lostL_le (l : List Cs) (t lim : Int) (k : Nat) : (lostL (l.take k) t lim).length ≤ k :=
  Nat.le_trans (List.length_filter_le _ _) (by rw [List.length_take]; omega)

def LostP (l : List Cs) (t lim : Int) (w : World) (e : Ending) (w' : World) : Prop :=
  ∃ A c, ∃ lo : List Cs, e = .returned (.slice A lo.length c) ∧ lo.Perm (lostL l t lim) ∧ Sl w' w'.heap.size 3 A lo.length (fun i => csV lo[i]!) ∧ Below w.heap.size w w'

theorem cs_info : (Try.prog.info? 27).map (fun i => (i.zero, i.size, i.bytes)) = some (some (.agg #[.string ByteArray.empty, .int .i64 0, .int .i64 0]), 3, 32) := by kernel_rfl

set_option maxRecDepth 100000 in
set_option maxHeartbeats 4000000 in
theorem Lost_any {g : Nat} {v : Value} {l : List Cs} {w : World} (h : RadioAt g v l w) (hn : l.length ≤ 12) (t lim : Int) (ht : 0 ≤ t ∧ t ≤ 1000) (hlim : 0 ≤ lim ∧ lim ≤ 1000) (hb : ∀ x ∈ l, 0 ≤ x.2.2 ∧ x.2.2 ≤ 200000) :
    Calls Try.prog 13 #[.pointer (some ⟨g, 0, none⟩), .int .i64 t, .int .i64 lim] w (LostP l t lim w) := by
  obtain ⟨i0, J0, J1, J2, J3⟩ := info_parts cs_info
  obtain ⟨A, c, rfl⟩ := h.shape
  have c0 := h.cell
  have hrow := h.row
  have HR := Lib.hid hrow
  have HB := Lib.hid hb
  have HW := Lib.hid (show wrongT t = false by unfold wrongT; simp; omega)
  clear hrow h hb
  go_enter Try.func13, Try.ntmps13
  go_wp2_with (go_at_call 17; go_loud (refine (wrong_any t _).mono ?_; rintro e w4 ⟨he4, rfl⟩; rw [HW.out] at he4; subst he4))
  go_loopw [7, 21] (fun v x wr => ∃ k m : Nat, k ≤ l.length ∧ m = (lostL (l.take k) t lim).length ∧ x = .int .i64 k ∧ wr.ownsRow w.heap.size 27 3 v m (css (lostL (l.take k) t lim)) ∧ Below w.heap.size w wr) (fun _ x _ => l.length - (intOf x).toNat)
  case atStart => exact ⟨0, 0, by omega, rfl, rfl, World.ownsRow_nil _ _ _ _, Below.refl _ _⟩
  case round =>
    obtain ⟨k, m, hk, hm, rfl, hown, hbr⟩ := hrel
    obtain ⟨V, cv, rfl⟩ := own_shape hown
    have HOW := Lib.hid hown
    have HBR := Lib.hid hbr
    have HM := Lib.hid hm
    have hzr := hbr.size
    have hmk : m ≤ k := by rw [hm]; exact lostL_le l t lim k
    clear hown hm
    by_cases hkn : k < l.length
    · obtain ⟨b, off, rfl, hb, hr⟩ := HR.out (by omega)
      have o0 : wr.cell? ⟨b, off + k * 3, none⟩ = some (.string (l[k]!).1) := (hbr.cell (p := ⟨b, _, none⟩) hb).trans (hr k hkn 0 _ rfl)
      have o1 : wr.cell? ⟨b, off + k * 3 + 1, none⟩ = some (.int .i64 (l[k]!).2.1) := (hbr.cell (p := ⟨b, _, none⟩) hb).trans (hr k hkn 1 _ rfl)
      have o2 : wr.cell? ⟨b, off + k * 3 + 2, none⟩ = some (.int .i64 (l[k]!).2.2) := (hbr.cell (p := ⟨b, _, none⟩) hb).trans (hr k hkn 2 _ rfl)
      have hst := lostL_step l t lim hkn
      have hk0 : (0 : Int) ≤ (k : Int) := by omega
      have hk1 : (k : Int) < (l.length : Int) := by omega
      have hx : l[k]! = l[k] := getElem!_pos l k hkn
      have hbd := HB.out l[k] (List.getElem_mem hkn)
      rw [hx] at o0 o1 o2
      clear hr hx
      generalize l[k] = xx at *
      obtain ⟨xc, xf, xt⟩ := xx
      dsimp only at *
      obtain ⟨hb1, hb2⟩ := hbd
      by_cases hp : lim < t - xt
      · rw [if_pos hp] at hst
        have HST := Lib.hid hst
        clear hst hbr
        go_wp2_with (at_builtin; go_loud (refine wpList_append_oneN (wr.alloc (.cells #[.string xc, .int .i64 xf, .int .i64 xt] 27)) (wr.heap.size + 1) (by simp) #[.string xc, .int .i64 xf, .int .i64 xt] rfl (.tmp 31) (.tmp 33) 22 rfl w.heap.size 27 i0 (.agg #[.string ByteArray.empty, .int .i64 0, .int .i64 0]) 3 32 Try.underlying22 J0 J1 J2 J3 rfl (by decide) (.slice V m cv) m _ rfl (HOW.out.alloc _) rfl rfl (by simp [Value.oneCell']) (by omega) (by decide) (by simp; omega) ?_); intro g3 cap3 w6 hv6 hg6 hat6 hlt6)
        go_roundw
        case rel => exact ⟨k + 1, m + 1, by omega, by rw [HST.out, List.length_append, ← HM.out]; rfl, by go_num, by rw [HST.out]; show World.ownsRow _ _ _ _ _ _ (rowsV csV _); rw [rowsV_snoc]; exact hv6, below_app (HBR.out.alloc hzr _) (by simp; omega) (HOW.out.alloc _) (Nat.le_refl _) hg6⟩
        case measure => simp [intOf]; omega
      · rw [if_neg hp] at hst
        have HST := Lib.hid hst
        clear hst hbr
        go_wp2
        go_roundw
        case rel => exact ⟨k + 1, m, by omega, by rw [HST.out]; exact HM.out, by go_num, by rw [HST.out]; exact HOW.out.alloc _, HBR.out.alloc hzr _⟩
        case measure => simp [intOf]; omega
    · obtain rfl : l.length = k := by omega
      have htk : l.take l.length = l := List.take_length
      have e1 := HM.out
      rw [htk] at e1
      have HOW2 := Lib.hid (show wr.ownsRow w.heap.size 27 3 (.slice V m cv) m (css (lostL l t lim)) by have := HOW.out; rwa [htk] at this)
      have HE := Lib.hid e1
      clear htk hbr e1 HOW HM
      by_cases hm0 : m = 0
      · subst hm0
        have hz := List.eq_nil_of_length_eq_zero HE.out.symm
        have HZ := Lib.hid hz
        clear hz
        go_wp2_with (go_at_call 22; go_loud (refine (Stable_none V cv _).mono ?_; rintro e w3 ⟨rfl, rfl⟩))
        go_ret
        exact ⟨V, cv, [], rfl, by rw [HZ.out], fun h => absurd h (by simp), HBR.out⟩
      · obtain ⟨g, cap, hlv, hgl, hltl⟩ := HOW2.out.form (by omega)
        obtain rfl : V = some ⟨g, 0, none⟩ := (Value.slice.inj hlv).1
        have hso := Stable_any g cv m w.heap.size (lostL l t lim) wr HOW2.out HE.out.symm (by omega)
        have HSO := Lib.hid hso
        clear hso hlv
        go_wp2_with (go_at_call 22; go_loud (refine HSO.out.mono ?_; rintro e w3 ⟨rfl, ⟨lo, hp, hsl⟩, hb3⟩; have HP := Lib.hid hp; have HSL := Lib.hid hsl; have HB3 := Lib.hid hb3; clear hp hsl hb3))
        go_ret
        have hlen : lo.length = m := by rw [HP.out.length_eq]; exact HE.out.symm
        subst hlen
        exact ⟨some ⟨g, 0, none⟩, cv, lo, rfl, HP.out, HSL.out, HBR.out.trans (HB3.out w.heap.size hgl hzr)⟩
end Go.Proofs.Ytjlbhifkhbpddaa
