/- Package strip: Bay, full. -/
import Derived.Test.YtadhkncilokdjaaDoorA4
namespace Go.Proofs.YtadhkncilokdjaaDoor
open Go.RowKit

def bayF (b : Int) (l : List Va) : List Va := l.filter fun x => decide (x.1.b = b)
theorem bayF_snoc {b : Int} {l : List Va} {j : Nat} (hj : j < l.length) : bayF b (l.take (j + 1)) = if l[j]!.1.b = b then bayF b (l.take j) ++ [l[j]!] else bayF b (l.take j) := by
  have e : l.take (j + 1) = l.take j ++ [l[j]!] := by
    rw [List.take_add_one, List.getElem?_eq_getElem hj, getElem!_pos l j hj]; rfl
  unfold bayF
  rw [e, List.filter_append]
  by_cases h : l[j]!.1.b = b
  · rw [if_pos h, List.filter_cons, if_pos (by simpa using h)]; rfl
  · rw [if_neg h, List.filter_cons, if_neg (by simpa using h)]; simp
theorem bayF_len (b : Int) (l : List Va) : (bayF b l).length ≤ l.length := List.length_filter_le _ _

/-- The strips of a board. -/
def BdV (g : Nat) (A : Option Addr) (c : Nat) (l : List Va) (W : World) : Prop :=
  W.heap[g]? = some (.cells #[.slice A l.length c] 44 (0, 0)) ∧ W.ownsRow (g + 1) 24 5 (.slice A l.length c) l.length (rowsV vaV l)
theorem rowsV_map (l : List Va) : rowsV stV (l.map (·.1)) = rowsV vaV l := by
  unfold rowsV
  rw [List.flatMap_map]
  rfl
theorem BdV.a {g c : Nat} {A : Option Addr} {l : List Va} {W : World} (h : BdV g A c l W) : BdA g A c (l.map (·.1)) W := by
  unfold BdA
  rw [List.length_map, rowsV_map]
  exact h
theorem BdV.below {g c : Nat} {A : Option Addr} {l : List Va} {W W' : World} (h : BdV g A c l W) (hb : Below W.heap.size W W') : BdV g A c l W' :=
  ⟨(hb.block _ h.a.lt).trans h.1, own_below h.2 hb (Nat.le_refl _)⟩
theorem BdV.sl {g c : Nat} {A : Option Addr} {l : List Va} {W : World} (h : BdV g A c l W) : Sl W W.heap.size 5 A l.length (fun i => vaV l[i]!) := Sl_rows vaV_len h.2 rfl (by decide)

theorem strip_info : (Tryd.prog.info? 24).map (fun i => (i.zero, i.size, i.bytes)) = some (some (.agg #[.string ByteArray.empty, .string ByteArray.empty, .int .i64 0, .int .i64 0, .int .i64 0]), 5, 56) := by kernel_rfl

def BayP (b : Int) (l : List Va) (w : World) (e : Ending) (w' : World) : Prop :=
  ∃ (A' : Option Addr) (c' : Nat) (s : List Va), e = .returned (.slice A' (bayF b l).length c') ∧ s.Perm (bayF b l) ∧ (∀ i j, i < j → j < s.length → 0 ≤ cfS s[j]! s[i]!) ∧ Sl w' w'.heap.size 5 A' (bayF b l).length (fun i => vaV s[i]!) ∧ Below w.heap.size w w' ∧ (∀ a, A' = some a → w.heap.size ≤ a.block)

set_option maxRecDepth 100000 in
set_option maxHeartbeats 4000000 in
theorem Bay_any {g c : Nat} {A : Option Addr} {l : List Va} {w : World} (h : BdV g A c l w) (b : Int) (hn : l.length ≤ 1000) :
    Calls Tryd.prog 12 #[.pointer (some ⟨g, 0, none⟩), .int .i64 b] w (BayP b l w) := by
  have c0 := h.a.cell
  rw [List.length_map] at c0
  have HS := Lib.hid h.sl
  have hg := h.a.lt
  obtain ⟨n, hln⟩ : ∃ n, l.length = n := ⟨_, rfl⟩
  rw [hln] at c0 HS hn
  have HL := Lib.hid hln
  obtain ⟨i24, E0, E1, E2, E3⟩ := info_parts strip_info
  have hn0 : (0 : Int) ≤ (n : Int) := by omega
  clear h hln
  go_enter Tryd.func12, Tryd.ntmps12
  go_wp2
  go_loopw [5, 13] (fun v i wr => ∃ (j m : Nat) (V : Option Addr) (cv : Nat), j ≤ n ∧ i = .int .i64 (j : Int) ∧ v = .slice V m cv ∧ Hid ((bayF b (l.take j)).length = m) ∧ Hid (wr.ownsRow w.heap.size 24 5 (.slice V m cv) m (rowsV vaV (bayF b (l.take j)))) ∧ Hid (Below w.heap.size w wr)) (fun _ i _ => n - (intOf i).toNat)
  case atStart => exact ⟨0, 0, none, 0, by omega, rfl, rfl, Lib.hid rfl, Lib.hid (World.ownsRow_nil _ _ _ _), Lib.hid (Below.refl _ _)⟩
  case round =>
    obtain ⟨j, m, V, cv, hj, rfl, rfl, HM, HO, HB⟩ := hrel
    have hzr := HB.out.size
    have hmj : m ≤ j := by have h1 := HM.out; have h2 := bayF_len b (l.take j); rw [List.length_take] at h2; omega
    by_cases hlt : j < n
    · obtain ⟨bb, off, rfl, hbb, hr⟩ := HS.out (by omega)
      have hcs : ∀ q v, (vaV l[j]!)[q]? = some v → wr.cell? ⟨bb, off + j * 5 + q, none⟩ = some v := fun q v hv => (HB.out.cell (p := ⟨bb, off + j * 5 + q, none⟩) hbb).trans (hr j hlt q v hv)
      have HSn := Lib.hid (bayF_snoc (b := b) (l := l) (j := j) (by rw [HL.out]; exact hlt))
      obtain ⟨x, hx⟩ : ∃ x, l[j]! = x := ⟨_, rfl⟩
      rw [hx] at hcs HSn
      have d0 : wr.cell? ⟨bb, off + j * 5, none⟩ = some (.string x.1.c) := hcs 0 _ rfl
      have d1 : wr.cell? ⟨bb, off + j * 5 + 1, none⟩ = some (.string x.1.f) := hcs 1 _ rfl
      have d2 : wr.cell? ⟨bb, off + j * 5 + 2, none⟩ = some (.int .i64 x.1.t) := hcs 2 _ rfl
      have d3 : wr.cell? ⟨bb, off + j * 5 + 3, none⟩ = some (.int .i64 x.1.h) := hcs 3 _ rfl
      have d4 : wr.cell? ⟨bb, off + j * 5 + 4, none⟩ = some (.int .i64 x.1.b) := hcs 4 _ rfl
      have l1 : (j : Int) < (n : Int) := by omega
      have l0 : (0 : Int) ≤ (j : Int) := by omega
      have hwj : IntKind.i64.wrap ((j : Int) + 1) = (j : Int) + 1 := IntWalk.i64_in _ (by omega)
      have HV : Hid (vaV x = [.string x.1.c, .string x.1.f, .int .i64 x.1.t, .int .i64 x.1.h, .int .i64 x.1.b]) := Lib.hid rfl
      clear hcs hr hx
      by_cases hbx : x.1.b = b
      · rw [if_pos hbx] at HSn
        have t1 : (x.1.b == b) = true := by simpa using hbx
        have HVs := Lib.hid (rowsV_snoc vaV (bayF b (l.take j)) x)
        rw [HV.out] at HVs
        clear hbx HV
        generalize x.1.c = xc at *
        generalize x.1.f = xf at *
        generalize x.1.t = xt at *
        generalize x.1.h = xh at *
        generalize x.1.b = xb at *
        go_wp2_with (at_builtin; go_loud (refine wpList_append_oneN (wr.alloc (.cells #[.string xc, .string xf, .int .i64 xt, .int .i64 xh, .int .i64 xb] 24)) (wr.heap.size + 1) (by simp) #[.string xc, .string xf, .int .i64 xt, .int .i64 xh, .int .i64 xb] rfl (.tmp 21) (.tmp 23) 22 rfl w.heap.size 24 i24 (.agg #[.string ByteArray.empty, .string ByteArray.empty, .int .i64 0, .int .i64 0, .int .i64 0]) 5 56 Tryd.underlying22 E0 E1 E2 E3 rfl (by decide) (.slice V m cv) m _ rfl (HO.out.alloc _) rfl rfl (by simp [Value.oneCell']) (by omega) (by decide) (by simp; omega) ?_); intro g3 cap3 w6 hv6 hg6 hat6 hlt6)
        go_roundw
        case rel =>
          refine ⟨j + 1, m + 1, some ⟨g3, 0, none⟩, cap3, by omega, by go_num, rfl, ?_, ?_, ?_⟩
          · rw [HSn.out]; exact Lib.hid (by rw [List.length_append, HM.out]; rfl)
          · rw [HSn.out, HVs.out]; exact Lib.hid hv6
          · exact Lib.hid (below_app (HB.out.alloc hzr _) (by simp; omega) (HO.out.alloc _) (Nat.le_refl _) hg6)
        case measure => simp [intOf]; omega
      · rw [if_neg hbx] at HSn
        have t1 : (x.1.b == b) = false := by simpa using hbx
        clear hbx HV
        go_wp2_with fail
        go_roundw
        case rel =>
          refine ⟨j + 1, m, V, cv, by omega, by go_num, rfl, ?_, ?_, ?_⟩
          · rw [HSn.out]; exact HM
          · rw [HSn.out]; exact Lib.hid (HO.out.alloc _)
          · exact Lib.hid (HB.out.alloc hzr _)
        case measure => simp [intOf]; omega
    · obtain rfl : n = j := by omega
      have hsort := SortS_any V cv m w.heap.size (bayF b (l.take n)) wr HO.out HM.out (by omega)
      rw [List.take_of_length_le (by rw [HL.out]; omega)] at hsort HM
      have HSo := Lib.hid hsort
      clear hsort
      go_wp2_with (go_at_call 22; go_loud (refine HSo.out.mono ?_; rintro e w3 ⟨rfl, ⟨s, hp, hs, hsl⟩, hb3⟩))
      go_ret
      refine ⟨V, cv, s, by rw [HM.out]; rfl, hp, hs, by rw [HM.out]; exact hsl, HB.out.trans (hb3 hzr), fun a ha => (HO.out.lt a.block (by rw [ha]; rfl)).1⟩

set_option maxRecDepth 100000 in
theorem full_any {g c : Nat} {A : Option Addr} {l : List Va} {w : World} (h : BdV g A c l w) (b : Int) (hn : l.length ≤ 15) :
    Calls Tryd.prog 19 #[.pointer (some ⟨g, 0, none⟩), .int .i64 b] w fun e w' => e = .returned (.bool false) ∧ Below w.heap.size w w' := by
  have HB := Lib.hid (Bay_any h b (by omega))
  have hl : (bayF b l).length ≤ 15 := Nat.le_trans (bayF_len b l) hn
  unfold BayP at HB
  generalize (bayF b l).length = m at *
  have hm : decide ((16 : Int) ≤ (m : Int)) = false := decide_eq_false (by omega)
  clear h
  go_enter Tryd.func19, Tryd.ntmps19
  go_wp2_with (go_at_call 12; go_loud (refine HB.out.mono ?_; rintro e w3 ⟨A', c', s, rfl, hp, hs, hsl, hb3, hA'⟩))
  go_ret
  exact ⟨rfl, hb3⟩
end Go.Proofs.YtadhkncilokdjaaDoor
