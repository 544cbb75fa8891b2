/- slices.Grow of nothing, slices.Concat of two slices: one instance. -/
import Derived.Test.YtojnojjiblcmcaaDoorFlat
import Derived.Lib.AppendZeros
import Derived.Maps.AppendAt
import Derived.Outline
namespace Go.Proofs.YtojnojjiblcmcaaDoor
open Go.RowKit

section
variable {P : Program}
theorem run_append_empty (w : World) (base : Nat) (t ty e : TypeId) (i : TypeInfo) (size : Nat) (ht : P.underlying t = some (.slice e)) (hi : P.info? e = some i)
    (v : Value) (n : Nat) (xs : List Value) (hown : w.ownsRow base e size v n xs) (c : Nat) : (Builtin.append_ #[t, t] ty #[v, .slice none 0 c]).run P w = .ok v w := by
  rcases hown.2 with ⟨rfl, rfl⟩ | ⟨g, cap, cur, rfl, _, _, hnc, _⟩
  all_goals simp [Builtin.append_, run_underlying ht, sizeOf, typeInfo, Builtin.lenOf, Builtin.firstCells, storeCells, *]
/-- 'append(v, l...)', l nil or not. -/
theorem wpList_append_l {ops : Array Oper} {rest : List Oper} {o : Oper} {a : Act} {w : World} {Q : Exit → Act → World → Prop} (hgd : o.guard = none) (s x : Operand) (t : TypeId)
    (ho : o.op = .call { callee := .builtin .append, args := #[s, x], argTypes := #[t, t] })
    (base : Nat) (e : TypeId) (i : TypeInfo) (z : Value) (size bytes : Nat) (ht : P.underlying t = some (.slice e)) (hi : P.info? e = some i) (hz : i.zero = some z)
    (hsize : i.size = size) (hby : i.bytes = bytes) (hzs : z.cells.size = size) (hsz : 0 < size)
    (v : Value) (n : Nat) (xs : List Value) (hs : a.eval s = v) (hown : w.ownsRow base e size v n xs)
    (A : Option Addr) (m c : Nat) (row : Nat → List Value) (hx : a.eval x = .slice A m c) (B : Nat) (hr : Sl w B size A m row) (hl : ∀ i, i < m → (row i).length = size) (h1 : ∀ u ∈ flatR row m, u.oneCell' = true)
    (hn : n + m ≤ 100000000) (hbytes : bytes ≤ 1000) (hbase : base ≤ w.heap.size) (hnil : A = none → m = 0)
    (h : ∀ v' w', w'.ownsRow base e size v' (n + m) (xs ++ flatR row m) → w.grownBy w' v.ownBlock → (v'.ownBlock = v.ownBlock ∨ v'.ownBlock = some w.heap.size) → wpList P ops Q rest (a.put o.dst v') w') : wpList P ops Q (o :: rest) a w := by
  refine wpList_plain hgd fun K hK => ?_
  have fin : ∀ v' w', (Builtin.append_ #[t, t] o.type #[v, .slice A m c]).run P w = .ok v' w' → w'.ownsRow base e size v' (n + m) (xs ++ flatR row m) → w.grownBy w' v.ownBlock → (v'.ownBlock = v.ownBlock ∨ v'.ownBlock = some w.heap.size) → o.wp P a w K Q := by
    intro v' w' hrun a1 a2 a3
    unfold Oper.wp execOp
    simp only [ho, resolve, invoke, builtin, Sem.run_bind, Sem.run_pure, Result.andThen_ok, List.map_toArray, List.map_cons, List.map_nil, hs, hx, hrun]
    exact hK _ _ (h v' w' a1 a2 a3)
  cases A with
  | none =>
    obtain rfl := hnil rfl
    refine fin v w (run_append_empty w base t o.type e i size ht hi v n xs hown c) ?_ (World.grownBy.refl w _) (.inl rfl)
    simpa [flatR] using hown
  | some ad =>
    have hnews := Sl_news hsz hr rfl hl
    have h63 : n + m ≤ maxLen := by simp only [maxLen]; omega
    have hby2 : (n + m) * bytes ≤ 140737488355328 := Nat.le_trans (Nat.mul_le_mul hn hbytes) (by decide)
    obtain ⟨v', w', hrun, h2, h3, _, h5⟩ := run_append_own_at (P := P) w base t o.type e i z size bytes ht hi hz hsize hby hzs hsz v n xs hown ad m c (flatR row m) (flatR_len m hl) hnews h1 h63 hby2 hbase
    exact fin v' w' hrun h2 h3 h5
end


def conN (n1 n2 : Nat) : Nat → Nat
  | 0 => 0
  | 1 => n1
  | _ => n1 + n2
def conR (l1 l2 : List Value) : Nat → List Value
  | 0 => []
  | 1 => l1
  | _ => l1 ++ l2
end Go.Proofs.YtojnojjiblcmcaaDoor

namespace Go.Proofs.YtojnojjiblcmcaaDoor
open Go.RowKit

theorem ConRw_info : (Tryd.prog.info? 39).map (fun i => (i.zero, i.size, i.bytes)) = some (some (.agg #[.string ByteArray.empty, .string ByteArray.empty]), 2, 32) := by kernel_rfl

set_option maxRecDepth 100000 in
set_option maxHeartbeats 2000000 in
theorem GrowRw_nil (n : Nat) (w : World) (hn : n ≤ 1000) : Calls Tryd.prog 51 #[.slice none 0 0, .int .i64 (n : Int)] w fun e w' => ∃ v, e = .returned v ∧ w'.ownsRow w.heap.size 39 2 v 0 [] ∧ Below w.heap.size w w' := by
  obtain ⟨i0, J0, J1, J2, J3⟩ := info_parts ConRw_info
  by_cases h0 : 0 < n
  · have hrun := Lib.run_append_nil_zeros (P := Tryd.prog) w 22 3 22 39 i0 (.agg #[.string ByteArray.empty, .string ByteArray.empty]) .i64 .i64 Tryd.underlying22 Tryd.underlying3 J0 J1 n h0 (by rw [J2]; decide) (by omega) (by rw [J3]; omega)
    have hge := grownCap_ge w n 0 39
    have hle := grownCap_le_maxLen w n 0 39 (by unfold maxLen; omega)
    generalize grownCap w n 0 39 = cap at *
    have hpos : decide ((0 : Int) < (n : Int)) = true := decide_eq_true (by omega)
    have hn0 : (0 : Int) ≤ (n : Int) := by omega
    have HR := Lib.hid hrun
    have hcap : (cap : Int) ≤ 9223372036854775807 := by unfold maxLen at hle; omega
    have HLE := Lib.hid hle
    clear hrun hle
    go_enter Tryd.func51, Tryd.ntmps51
    go_wp2_with (at_builtin; go_loud (refine Lib.wpList_append_run w rfl (.tmp 20) (.tmp 21) 22 3 rfl _ _ rfl rfl _ _ HR.out ?_))
    go_ret
    refine ⟨_, rfl, ⟨rfl, .inr ⟨w.heap.size, cap, _, rfl, Nat.le_refl _, heap_alloc_new w.drew _, Nat.zero_le _, HLE.out, ?_, by simp⟩⟩, ((Below.refl _ w).drew).alloc (Nat.le_refl _) _⟩
    simp [Builtin.zeroCells]
    omega
  · obtain rfl : n = 0 := by omega
    go_enter Tryd.func51, Tryd.ntmps51
    go_wp2
    go_ret
    exact ⟨_, rfl, World.ownsRow_nil _ _ _ _, Below.refl _ _⟩

set_option maxRecDepth 100000 in
set_option maxHeartbeats 4000000 in
theorem ConcatRw_two (b : Nat) (A1 A2 : Option Addr) (n1 n2 c1 c2 : Nat) (r1 r2 : Nat → List Value) (w : World) (hb : w.heap[b]? = some (.cells #[.slice A1 n1 c1, .slice A2 n2 c2] 22 (0, 0))) (h1 : Sl w w.heap.size 2 A1 n1 r1) (h2 : Sl w w.heap.size 2 A2 n2 r2)
    (hl1 : ∀ i, i < n1 → (r1 i).length = 2) (hl2 : ∀ i, i < n2 → (r2 i).length = 2) (o1 : ∀ u ∈ flatR r1 n1, u.oneCell' = true) (o2 : ∀ u ∈ flatR r2 n2, u.oneCell' = true)
    (hn1 : A1 = none → n1 = 0) (hn2 : A2 = none → n2 = 0) (hm1 : n1 ≤ 400) (hm2 : n2 ≤ 400) :
    Calls Tryd.prog 37 #[.slice (some ⟨b, 0, none⟩) 2 2] w fun e w' => ∃ A c, e = .returned (.slice A (n1 + n2) c) ∧ w'.ownsRow w.heap.size 39 2 (.slice A (n1 + n2) c) (n1 + n2) (flatR r1 n1 ++ flatR r2 n2) ∧ Below w.heap.size w w' := by
  obtain ⟨i0, J0, J1, J2, J3⟩ := info_parts ConRw_info
  have hbl : b < w.heap.size := (Array.getElem?_eq_some_iff.1 hb).1
  have k0 : w.cell? ⟨b, 0, none⟩ = some (.slice A1 n1 c1) := cell_of_row w b 0 _ 22 (0, 0) hb
  have k1 : w.cell? ⟨b, 1, none⟩ = some (.slice A2 n2 c2) := cell_of_row w b 1 _ 22 (0, 0) hb
  have H1 := Lib.hid (And.intro h1 hn1)
  have H2 := Lib.hid (And.intro h2 hn2)
  have HO := Lib.hid (And.intro o1 o2)
  have HL1 := Lib.hid hl1
  have HL2 := Lib.hid hl2
  clear hb h1 h2 hn1 hn2 o1 o2 hl1 hl2
  have p1 : (0 : Int) ≤ (n1 : Int) := by omega
  have p2 : (0 : Int) ≤ (n2 : Int) := by omega
  go_enter Tryd.func37, Tryd.ntmps37
  go_wp2
  go_loop [3, 11] (fun s k => ∃ j : Nat, j ≤ 2 ∧ k = .int .i64 j ∧ s = .int .i64 (conN n1 n2 j : Nat)) (fun _ k => 2 - (intOf k).toNat)
  case atStart => exact ⟨0, by omega, rfl, rfl⟩
  case round =>
    obtain ⟨j, hj, rfl, rfl⟩ := hrel
    by_cases hlt : j < 2
    · rcases (show j = 0 ∨ j = 1 by omega) with rfl | rfl
      · have e0 : conN n1 n2 0 = 0 := rfl
        simp only [e0]
        clear e0
        go_wp2
        exact ⟨⟨1, by omega, by go_num, rfl⟩, by simp [intOf]⟩
      · have e1 : conN n1 n2 1 = n1 := rfl
        simp only [e1]
        clear e1
        go_wp2
        exact ⟨⟨2, by omega, by go_num, by show _ = Value.int .i64 ((n1 + n2 : Nat) : Int); go_num⟩, by simp [intOf]⟩
    · obtain rfl : j = 2 := by omega
      have e2 : conN n1 n2 2 = n1 + n2 := rfl
      simp only [e2]
      clear e2
      have pp : (0 : Int) ≤ ((n1 + n2 : Nat) : Int) := by omega
      have pp2 : ((n1 + n2 : Nat) : Int) ≤ 800 := by omega
      have HG := Lib.hid (GrowRw_nil (n1 + n2) w (by omega))
      obtain ⟨nn, hnn⟩ : ∃ nn, n1 + n2 = nn := ⟨_, rfl⟩
      rw [hnn] at HG pp pp2 ⊢
      have HNN := Lib.hid hnn
      clear hnn
      go_wp2_with (go_at_call 51; go_loud (refine HG.out.mono ?_; rintro e w2 ⟨v2, rfl, hv2, hb2⟩; have HG2 := Lib.hid (And.intro hv2 hb2); clear hv2 hb2))
      go_loopw [6, 8, 27] (fun v _ k wr => ∃ (j : Nat) (l : List Value), j ≤ 2 ∧ k = .int .i64 j ∧ Hid (l = conR (flatR r1 n1) (flatR r2 n2) j) ∧ wr.ownsRow w.heap.size 39 2 v (conN n1 n2 j) l ∧ Below w.heap.size w wr) (fun _ _ k _ => 2 - (intOf k).toNat)
      case atStart => exact ⟨0, [], by omega, rfl, Lib.hid rfl, HG2.out.1, HG2.out.2⟩
      case round =>
        obtain ⟨j, l, hj, rfl, HLL, hown, hb⟩ := hrel
        obtain ⟨V, cv, rfl⟩ := own_shape hown
        have HB := Lib.hid hb
        have hz := hb.size
        by_cases hlt : j < 2
        · rcases (show j = 0 ∨ j = 1 by omega) with rfl | rfl
          · have m0 : wr.cell? ⟨b, 0, none⟩ = some (.slice A1 n1 c1) := (hb.cell (p := ⟨b, 0, none⟩) hbl).trans k0
            have HOWN : Hid (wr.ownsRow w.heap.size 39 2 (.slice V 0 cv) 0 l) := Lib.hid hown
            change Hid (l = []) at HLL
            have e0 : conN n1 n2 0 = 0 := rfl
            simp only [e0]
            clear e0 hown hb
            go_wp2_with (at_builtin; go_loud (refine wpList_append_l rfl (.tmp 31) (.tmp 32) 22 rfl w.heap.size 39 i0 (.agg #[.string ByteArray.empty, .string ByteArray.empty]) 2 32 Tryd.underlying22 J0 J1 J2 J3 rfl (by decide) (.slice V 0 cv) 0 l rfl HOWN.out A1 n1 c1 r1 rfl w.heap.size (H1.out.1.below HB.out) HL1.out HO.out.1 (by omega) (by decide) hz H1.out.2 ?_); intro v3 w3 hv3 hg3 hat3)
            go_roundw
            case rel => exact ⟨1, flatR r1 n1, by omega, by go_num, Lib.hid rfl, by rw [HLL.out, Nat.zero_add, List.nil_append] at hv3; exact hv3, HB.out.grown hg3 hz (fun k hk => (HOWN.out.lt k hk).1)⟩
            case measure => simp [intOf]
          · have m1 : wr.cell? ⟨b, 1, none⟩ = some (.slice A2 n2 c2) := (hb.cell (p := ⟨b, 1, none⟩) hbl).trans k1
            have HOWN : Hid (wr.ownsRow w.heap.size 39 2 (.slice V n1 cv) n1 l) := Lib.hid hown
            change Hid (l = flatR r1 n1) at HLL
            have e0 : conN n1 n2 1 = n1 := rfl
            simp only [e0]
            clear e0 hown hb
            go_wp2_with (at_builtin; go_loud (refine wpList_append_l rfl (.tmp 31) (.tmp 32) 22 rfl w.heap.size 39 i0 (.agg #[.string ByteArray.empty, .string ByteArray.empty]) 2 32 Tryd.underlying22 J0 J1 J2 J3 rfl (by decide) (.slice V n1 cv) n1 l rfl HOWN.out A2 n2 c2 r2 rfl w.heap.size (H2.out.1.below HB.out) HL2.out HO.out.2 (by omega) (by decide) hz H2.out.2 ?_); intro v3 w3 hv3 hg3 hat3)
            go_roundw
            case rel => exact ⟨2, flatR r1 n1 ++ flatR r2 n2, by omega, by go_num, Lib.hid rfl, by rw [HLL.out] at hv3; exact hv3, HB.out.grown hg3 hz (fun k hk => (HOWN.out.lt k hk).1)⟩
            case measure => simp [intOf]
        · obtain rfl : j = 2 := by omega
          change Hid (l = flatR r1 n1 ++ flatR r2 n2) at HLL
          have HOWN : Hid (wr.ownsRow w.heap.size 39 2 (.slice V (n1 + n2) cv) (n1 + n2) l) := Lib.hid hown
          have e0 : conN n1 n2 2 = n1 + n2 := rfl
          simp only [e0]
          clear e0 hown hb
          go_wp2
          go_ret
          exact ⟨V, cv, rfl, by rw [← HLL.out]; exact HOWN.out, HB.out⟩
end Go.Proofs.YtojnojjiblcmcaaDoor
