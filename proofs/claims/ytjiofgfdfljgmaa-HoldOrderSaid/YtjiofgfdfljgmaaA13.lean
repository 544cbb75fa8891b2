/- slices.Grow of nothing, slices.Concat of two rows, slices.Equal of equal rows: texts. -/
import Derived.Test.YtjiofgfdfljgmaaA11
import Derived.Lib.AppendZeros
import Derived.Maps.AppendAt
import Derived.Outline
namespace Go.Proofs.Ytjiofgfdfljgmaa
open Go.RowKit

def rowS (l : List ByteArray) (i : Nat) : List Value := [.string l[i]!]
theorem rowS_flat (l : List ByteArray) : flatR (rowS l) l.length = strsV l := by
  unfold flatR strsV rowS
  rw [List.flatMap_def, List.map_congr_left (g := fun i => [Value.string l[i]!]) (fun _ _ => rfl)]
  apply List.ext_getElem?
  intro i
  rw [← List.flatMap_def, ← List.map_eq_flatMap]
  by_cases hi : i < l.length
  · simp [hi]
  · simp [hi]
theorem strs_sl {w : World} {l : List ByteArray} {A : Option Addr} {c n base : Nat} (h : w.ownsRow base 9 1 (.slice A n c) n (strsV l)) (hn : l.length = n) : Sl w w.heap.size 1 A l.length (rowS l) := by
  subst hn
  exact Sl_flat (fun _ _ => rfl) (by rw [rowS_flat]; exact h)

set_option maxHeartbeats 2000000 in
theorem Grow_nil (n : Nat) (w : World) (hn : n ≤ 1000) : Calls Try.prog 23 #[.slice none 0 0, .int .i64 (n : Int)] w fun e w' => ∃ v, e = .returned v ∧ w'.ownsRow w.heap.size 9 1 v 0 [] ∧ Below w.heap.size w w' := by
  obtain ⟨i0, J0, J1, J2, J3⟩ := info_parts str_info
  by_cases h0 : 0 < n
  · have hrun := Lib.run_append_nil_zeros (P := Try.prog) w 33 3 33 9 i0 (.string ByteArray.empty) .i64 .i64 Try.underlying33 Try.underlying3 J0 J1 n h0 (by rw [J2]; decide) (by omega) (by rw [J3]; omega)
    have hge := grownCap_ge w n 0 9
    have hle := grownCap_le_maxLen w n 0 9 (by unfold maxLen; omega)
    generalize grownCap w n 0 9 = cap at *
    have hpos : decide ((0 : Int) < (n : Int)) = true := decide_eq_true (by omega)
    have hn0 : (0 : Int) ≤ (n : Int) := by omega
    have HR := Lib.hid hrun
    have hcap : (cap : Int) ≤ 9223372036854775807 := by unfold maxLen at hle; omega
    have HLE := Lib.hid hle
    clear hrun hle
    go_enter Try.func23, Try.ntmps23
    go_wp2_with (at_builtin; go_loud (refine Lib.wpList_append_run w rfl (.tmp 20) (.tmp 21) 33 3 rfl _ _ rfl rfl _ _ HR.out ?_))
    go_ret
    refine ⟨_, rfl, ⟨rfl, .inr ⟨w.heap.size, cap, _, rfl, Nat.le_refl _, heap_alloc_new w.drew _, Nat.zero_le _, HLE.out, ?_, by simp⟩⟩, ((Below.refl _ w).drew).alloc (Nat.le_refl _) _⟩
    simp [Builtin.zeroCells, Value.cells]
    omega
  · obtain rfl : n = 0 := by omega
    go_enter Try.func23, Try.ntmps23
    go_wp2
    go_ret
    exact ⟨_, rfl, World.ownsRow_nil _ _ _ _, Below.refl _ _⟩

section
variable {P : Program}
theorem run_append_empty (w : World) (base : Nat) (t ty e : TypeId) (i : TypeInfo) (size : Nat) (ht : P.underlying t = some (.slice e)) (hi : P.info? e = some i)
    (v : Value) (n : Nat) (xs : List Value) (hown : w.ownsRow base e size v n xs) (c : Nat) : (Builtin.append_ #[t, t] ty #[v, .slice none 0 c]).run P w = .ok v w := by
  rcases hown.2 with ⟨rfl, rfl⟩ | ⟨g, cap, cur, rfl, _, _, hnc, _⟩
  all_goals simp [Builtin.append_, run_underlying ht, sizeOf, typeInfo, hi, Builtin.lenOf, Builtin.firstCells, storeCells, *]
/-- 'append(v, l...)', l nil or not. -/
theorem wpList_append_l {ops : Array Oper} {rest : List Oper} {o : Oper} {a : Act} {w : World} {Q : Exit → Act → World → Prop} (hgd : o.guard = none) (s x : Operand) (t : TypeId)
    (ho : o.op = .call { callee := .builtin .append, args := #[s, x], argTypes := #[t, t] })
    (base : Nat) (e : TypeId) (i : TypeInfo) (z : Value) (size bytes : Nat) (ht : P.underlying t = some (.slice e)) (hi : P.info? e = some i) (hz : i.zero = some z)
    (hsize : i.size = size) (hby : i.bytes = bytes) (hzs : z.cells.size = size) (hsz : 0 < size)
    (v : Value) (n : Nat) (xs : List Value) (hs : a.eval s = v) (hown : w.ownsRow base e size v n xs)
    (A : Option Addr) (m c : Nat) (row : Nat → List Value) (hx : a.eval x = .slice A m c) (B : Nat) (hr : Sl w B size A m row) (hl : ∀ i, i < m → (row i).length = size) (h1 : ∀ u ∈ flatR row m, u.oneCell' = true)
    (hn : n + m ≤ 100000000) (hbytes : bytes ≤ 1000) (hbase : base ≤ w.heap.size) (hnil : A = none → m = 0)
    (h : ∀ v' w', w'.ownsRow base e size v' (n + m) (xs ++ flatR row m) → w.grownBy w' v.ownBlock → (v'.ownBlock = v.ownBlock ∨ v'.ownBlock = some w.heap.size) → wpList P ops Q rest (a.put o.dst v') w') : wpList P ops Q (o :: rest) a w := by
  refine wpList_plain hgd fun K hK => ?_
  have fin : ∀ v' w', (Builtin.append_ #[t, t] o.type #[v, .slice A m c]).run P w = .ok v' w' → w'.ownsRow base e size v' (n + m) (xs ++ flatR row m) → w.grownBy w' v.ownBlock → (v'.ownBlock = v.ownBlock ∨ v'.ownBlock = some w.heap.size) → o.wp P a w K Q := by
    intro v' w' hrun a1 a2 a3
    unfold Oper.wp execOp
    simp only [ho, resolve, invoke, builtin, Sem.run_bind, Sem.run_pure, Result.andThen_ok, List.map_toArray, List.map_cons, List.map_nil, hs, hx, hrun]
    exact hK _ _ (h v' w' a1 a2 a3)
  cases A with
  | none =>
    obtain rfl := hnil rfl
    refine fin v w (run_append_empty w base t o.type e i size ht hi v n xs hown c) ?_ (World.grownBy.refl w _) (.inl rfl)
    simpa [flatR] using hown
  | some ad =>
    have hnews := Sl_news hsz hr rfl hl
    have h63 : n + m ≤ maxLen := by simp only [maxLen]; omega
    have hby2 : (n + m) * bytes ≤ 140737488355328 := Nat.le_trans (Nat.mul_le_mul hn hbytes) (by decide)
    obtain ⟨v', w', hrun, h2, h3, _, h5⟩ := run_append_own_at (P := P) w base t o.type e i z size bytes ht hi hz hsize hby hzs hsz v n xs hown ad m c (flatR row m) (flatR_len m hl) hnews h1 h63 hby2 hbase
    exact fin v' w' hrun h2 h3 h5
end

def conN (n1 n2 : Nat) : Nat → Nat
  | 0 => 0
  | 1 => n1
  | _ => n1 + n2
def conL (l1 l2 : List ByteArray) : Nat → List ByteArray
  | 0 => []
  | 1 => l1
  | _ => l1 ++ l2

set_option maxRecDepth 100000 in
set_option maxHeartbeats 4000000 in
theorem Concat_two (b : Nat) (A1 A2 : Option Addr) (c1 c2 : Nat) (l1 l2 : List ByteArray) (w : World) (hb : w.heap[b]? = some (.cells #[.slice A1 l1.length c1, .slice A2 l2.length c2] 33 (0, 0))) (h1 : Sl w w.heap.size 1 A1 l1.length (rowS l1)) (h2 : Sl w w.heap.size 1 A2 l2.length (rowS l2))
    (hn1 : A1 = none → l1.length = 0) (hn2 : A2 = none → l2.length = 0) (hm1 : l1.length ≤ 400) (hm2 : l2.length ≤ 400) :
    Calls Try.prog 15 #[.slice (some ⟨b, 0, none⟩) 2 2] w fun e w' => ∃ A c, e = .returned (.slice A (l1.length + l2.length) c) ∧ w'.ownsRow w.heap.size 9 1 (.slice A (l1.length + l2.length) c) (l1.length + l2.length) (strsV (l1 ++ l2)) ∧ Below w.heap.size w w' := by
  obtain ⟨i0, J0, J1, J2, J3⟩ := info_parts str_info
  have hbl : b < w.heap.size := (Array.getElem?_eq_some_iff.1 hb).1
  have k0 : w.cell? ⟨b, 0, none⟩ = some (.slice A1 l1.length c1) := cell_of_row w b 0 _ 33 (0, 0) hb
  have k1 : w.cell? ⟨b, 1, none⟩ = some (.slice A2 l2.length c2) := cell_of_row w b 1 _ 33 (0, 0) hb
  have H1 := Lib.hid (And.intro h1 hn1)
  have H2 := Lib.hid (And.intro h2 hn2)
  have f1 := rowS_flat l1
  have f2 := rowS_flat l2
  have HF := Lib.hid (And.intro f1 f2)
  have HV : Hid (strsV (l1 ++ l2) = strsV l1 ++ strsV l2) := Lib.hid (by simp [strsV])
  have HL : Hid (∃ n1 n2, l1.length = n1 ∧ l2.length = n2) := Lib.hid ⟨_, _, rfl, rfl⟩
  have o1 : ∀ u ∈ flatR (rowS l1) l1.length, u.oneCell' = true := fun u hu => by rw [f1] at hu; simp [strsV] at hu; obtain ⟨a, _, rfl⟩ := hu; rfl
  have o2 : ∀ u ∈ flatR (rowS l2) l2.length, u.oneCell' = true := fun u hu => by rw [f2] at hu; simp [strsV] at hu; obtain ⟨a, _, rfl⟩ := hu; rfl
  have HO := Lib.hid (And.intro o1 o2)
  generalize hq1 : l1.length = n1 at *
  generalize hq2 : l2.length = n2 at *
  have HN := Lib.hid (And.intro hq1 hq2)
  clear hb h1 h2 hn1 hn2 f1 f2 o1 o2 hq1 hq2
  have p1 : (0 : Int) ≤ (n1 : Int) := by omega
  have p2 : (0 : Int) ≤ (n2 : Int) := by omega
  go_enter Try.func15, Try.ntmps15
  go_wp2
  go_loop [3, 11] (fun s k => ∃ j : Nat, j ≤ 2 ∧ k = .int .i64 j ∧ s = .int .i64 (conN n1 n2 j : Nat)) (fun _ k => 2 - (intOf k).toNat)
  case atStart => exact ⟨0, by omega, rfl, rfl⟩
  case round =>
    obtain ⟨j, hj, rfl, rfl⟩ := hrel
    by_cases hlt : j < 2
    · rcases (show j = 0 ∨ j = 1 by omega) with rfl | rfl
      · have e0 : conN n1 n2 0 = 0 := rfl
        simp only [e0]
        clear e0
        go_wp2
        exact ⟨⟨1, by omega, by go_num, rfl⟩, by simp [intOf]⟩
      · have e1 : conN n1 n2 1 = n1 := rfl
        simp only [e1]
        clear e1
        go_wp2
        exact ⟨⟨2, by omega, by go_num, by show _ = Value.int .i64 ((n1 + n2 : Nat) : Int); go_num⟩, by simp [intOf]⟩
    · obtain rfl : j = 2 := by omega
      have e2 : conN n1 n2 2 = n1 + n2 := rfl
      simp only [e2]
      clear e2
      have pp : (0 : Int) ≤ ((n1 + n2 : Nat) : Int) := by omega
      have pp2 : ((n1 + n2 : Nat) : Int) ≤ 800 := by omega
      have HG := Lib.hid (Grow_nil (n1 + n2) w (by omega))
      generalize hnn : n1 + n2 = nn at *
      have HNN := Lib.hid hnn
      clear hnn
      go_wp2_with (go_at_call 23; go_loud (refine HG.out.mono ?_; rintro e w2 ⟨v2, rfl, hv2, hb2⟩; have HG2 := Lib.hid (And.intro hv2 hb2); clear hv2 hb2))
      go_loopw [6, 27] (fun v k wr => ∃ (j : Nat) (l : List ByteArray), j ≤ 2 ∧ k = .int .i64 j ∧ Hid (l = conL l1 l2 j) ∧ wr.ownsRow w.heap.size 9 1 v (conN n1 n2 j) (strsV l) ∧ Below w.heap.size w wr) (fun _ k _ => 2 - (intOf k).toNat)
      case atStart => exact ⟨0, [], by omega, rfl, Lib.hid rfl, HG2.out.1, HG2.out.2⟩
      case round =>
        obtain ⟨j, l, hj, rfl, HLL, hown, hb⟩ := hrel
        obtain ⟨V, cv, rfl⟩ := own_shape hown
        have HOWN := Lib.hid hown
        have HB := Lib.hid hb
        have hz := hb.size
        by_cases hlt : j < 2
        · rcases (show j = 0 ∨ j = 1 by omega) with rfl | rfl
          · have m0 : wr.cell? ⟨b, 0, none⟩ = some (.slice A1 n1 c1) := (hb.cell (p := ⟨b, 0, none⟩) hbl).trans k0
            have HOWN : Hid (wr.ownsRow w.heap.size 9 1 (.slice V 0 cv) 0 (strsV l)) := HOWN
            change Hid (l = []) at HLL
            have e0 : conN n1 n2 0 = 0 := rfl
            simp only [e0]
            clear e0 hown hb
            go_wp2_with (at_builtin; go_loud (refine wpList_append_l rfl (.tmp 31) (.tmp 32) 33 rfl w.heap.size 9 i0 (.string ByteArray.empty) 1 16 Try.underlying33 J0 J1 J2 J3 rfl (by decide) (.slice V 0 cv) 0 (strsV l) rfl HOWN.out A1 n1 c1 (rowS l1) rfl w.heap.size (H1.out.1.below HB.out) (fun _ _ => rfl) HO.out.1 (by omega) (by decide) hz H1.out.2 ?_); intro v3 w3 hv3 hg3 hat3)
            go_roundw
            case rel => exact ⟨1, l1, by omega, by go_num, Lib.hid rfl, by rw [HLL.out, HF.out.1, Nat.zero_add] at hv3; exact hv3, HB.out.grown hg3 hz (fun k hk => (HOWN.out.lt k hk).1)⟩
            case measure => simp [intOf]
          · have m1 : wr.cell? ⟨b, 1, none⟩ = some (.slice A2 n2 c2) := (hb.cell (p := ⟨b, 1, none⟩) hbl).trans k1
            have HOWN : Hid (wr.ownsRow w.heap.size 9 1 (.slice V n1 cv) n1 (strsV l)) := HOWN
            change Hid (l = l1) at HLL
            have e0 : conN n1 n2 1 = n1 := rfl
            simp only [e0]
            clear e0 hown hb
            go_wp2_with (at_builtin; go_loud (refine wpList_append_l rfl (.tmp 31) (.tmp 32) 33 rfl w.heap.size 9 i0 (.string ByteArray.empty) 1 16 Try.underlying33 J0 J1 J2 J3 rfl (by decide) (.slice V n1 cv) n1 (strsV l) rfl HOWN.out A2 n2 c2 (rowS l2) rfl w.heap.size (H2.out.1.below HB.out) (fun _ _ => rfl) HO.out.2 (by omega) (by decide) hz H2.out.2 ?_); intro v3 w3 hv3 hg3 hat3)
            go_roundw
            case rel => exact ⟨2, l1 ++ l2, by omega, by go_num, Lib.hid rfl, by rw [HLL.out, HF.out.2, ← HV.out] at hv3; exact hv3, HB.out.grown hg3 hz (fun k hk => (HOWN.out.lt k hk).1)⟩
            case measure => simp [intOf]
        · obtain rfl : j = 2 := by omega
          change Hid (l = l1 ++ l2) at HLL
          have HOWN : Hid (wr.ownsRow w.heap.size 9 1 (.slice V (n1 + n2) cv) (n1 + n2) (strsV l)) := HOWN
          have e0 : conN n1 n2 2 = n1 + n2 := rfl
          simp only [e0]
          clear e0 hown hb
          go_wp2
          go_ret
          rw [← HLL.out, ← HNN.out]
          exact ⟨_, _, rfl, HOWN.out, HB.out⟩
end Go.Proofs.Ytjiofgfdfljgmaa
