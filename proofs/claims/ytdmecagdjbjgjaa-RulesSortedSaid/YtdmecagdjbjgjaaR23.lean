/- rules.All. -/
import Derived.Test.YtdmecagdjbjgjaaR17
import Derived.Test.YtdmecagdjbjgjaaR22
import Derived.Deep.Upon
namespace Go.Proofs.Ytdmecagdjbjgjaa
open Go.RowKit

section
variable {P : Program}
/-- 'append(s, v...)' where the run is known. -/
theorem wpList_append_runK {ops : Array Oper} {rest : List Oper} {o : Oper} {a : Act} {Q : Exit → Act → World → Prop} (w : World) (hgd : o.guard = none) (d s : Operand) (t t' : TypeId)
    (ho : o.op = .call { callee := .builtin .append, args := #[d, s], argTypes := #[t, t'] }) (v u : Value) (hd : a.eval d = v) (hs : a.eval s = u) {v' : Value} {w' : World}
    (hr : (Builtin.append_ #[t, t'] o.type #[v, u]).run P w = .ok v' w') (h : wpList P ops Q rest (a.put o.dst v') w') : wpList P ops Q (o :: rest) a w := by
  refine wpList_plain hgd fun K hK => ?_
  unfold Oper.wp execOp
  simp only [ho, resolve, invoke, builtin, Sem.run_bind, Sem.run_pure, Result.andThen_ok, List.map_toArray, List.map_cons, List.map_nil, hd, hs, hr]
  exact hK _ _ h
end

/-- A rule that finds the alerts L in the scene. -/
def RuOk (s : Sc) (w : World) (r : Value) (L : List Al) : Prop :=
  (∃ v, r = .iface 71 v ∧ ∀ W, Below w.heap.size w W → Calls Try.prog 106 #[v, s.val] W (AlsP L W)) ∨
  (∃ v, r = .iface 113 v ∧ ∀ W, Below w.heap.size w W → Calls Try.prog 108 #[v, s.val] W (AlsP L W)) ∨
  (∃ v, r = .iface 61 v ∧ ∀ W, Below w.heap.size w W → Calls Try.prog 17 #[v, s.val] W (AlsP L W))
def flA (LL : Nat → List Al) : Nat → List Al
  | 0 => []
  | k + 1 => flA LL k ++ LL k
theorem flA_len {LL : Nat → List Al} {B : Nat} : ∀ n, (∀ i, i < n → (LL i).length ≤ B) → (flA LL n).length ≤ n * B
  | 0, _ => Nat.zero_le _
  | n + 1, h => by
    have := flA_len n (fun i hi => h i (by omega))
    have := h n (by omega)
    rw [show flA LL (n + 1) = flA LL n ++ LL n from rfl, List.length_append, Nat.add_mul]
    omega
theorem flA_mem {LL : Nat → List Al} {x : Al} : ∀ n, x ∈ flA LL n ↔ ∃ i, i < n ∧ x ∈ LL i
  | 0 => by simp [flA]
  | n + 1 => by
    rw [show flA LL (n + 1) = flA LL n ++ LL n from rfl, List.mem_append, flA_mem n]
    constructor
    · rintro (⟨i, h1, h2⟩ | h)
      · exact ⟨i, by omega, h2⟩
      · exact ⟨n, by omega, h⟩
    · rintro ⟨i, h1, h2⟩
      rcases Nat.lt_or_ge i n with h | h
      · exact .inl ⟨i, h, h2⟩
      · obtain rfl : i = n := by omega
        exact .inr h2

/-- What All finds: all alerts, sorted, each once. -/
def AllL (L R : List Al) : Prop := ∃ S : List Al, S.Perm L ∧ (∀ i j, i < j → j < S.length → 0 ≤ cfA S[j]! S[i]!) ∧ R = ddN (fun i => S[i]!) S.length
def AllP (LL : Nat → List Al) (n : Nat) (bad : Prop) (ce : Int) (w : World) (E : Ending) (w' : World) : Prop :=
  ((ce ≠ 0 ∧ E = .returned (.tuple #[.slice none 0 0, .int .i64 ce])) ∨ (ce = 0 ∧ bad ∧ E = .returned (.tuple #[.slice none 0 0, .int .i64 1])) ∨
    (ce = 0 ∧ ¬ bad ∧ ∃ (V : Option Addr) (cv : Nat) (R : List Al), E = .returned (.tuple #[.slice V R.length cv, .int .i64 0]) ∧ AllL (flA LL n) R ∧ w'.ownsRow w.heap.size 51 4 (.slice V R.length cv) R.length (rowsV alL R))) ∧ Below w.heap.size w w'

set_option maxRecDepth 100000 in
set_option maxHeartbeats 16000000 in
theorem All_any (A : Option Addr) (n c : Nat) (R : Nat → Value) (LL : Nat → List Al) (s : Sc) (w : World) (hS : s.at_ w w.heap.size) (hA : Sl w w.heap.size 1 A n (fun i => [R i])) (hn : n ≤ 16)
    (hR : checkE s = 0 → ∀ i, i < n → R i = .nilIface ∨ RuOk s w (R i) (LL i)) (hLL : checkE s = 0 → ∀ i, i < n → (LL i).length ≤ 1024) :
    Calls Try.prog 16 #[.slice A n c, s.val] w (AllP LL n (∃ i, i < n ∧ R i = .nilIface) (checkE s) w) := by
  unfold AllP
  obtain ⟨w1, hw1⟩ : ∃ W, w.alloc (.cells #[.int .i64 s.tm, .slice s.A s.n s.c, .slice s.B s.m s.d] 25) = W := ⟨_, rfl⟩
  have hb1 : Below w.heap.size w w1 := by rw [← hw1]; exact (Below.refl _ _).alloc (Nat.le_refl _) _
  have hyc : w1.heap[w.heap.size]? = some (.cells #[.int .i64 s.tm, .slice s.A s.n s.c, .slice s.B s.m s.d] 25 (0, 0)) := by rw [← hw1]; exact heap_alloc_new _ _
  have hl1 : w.heap.size < w1.heap.size := by rw [← hw1]; simp
  have HCH := Lib.hid (Check_any s w1 (hS.step hb1))
  have HRU := Lib.hid hR
  have HLL := Lib.hid hLL
  unfold RuOk at HRU
  generalize checkE s = ce at *
  unfold Sc.val at *
  obtain ⟨tm, A0, n0, c0, B0, mm0, d0, T, V⟩ := s
  dsimp only at *
  clear hS hR hLL
  have HA := Lib.hid hA
  clear hA
  obtain ⟨k, hk⟩ : ∃ k, w.heap.size = k := ⟨_, rfl⟩
  have HK := Lib.hid hk
  rw [hk] at hyc hl1
  have HBW := Lib.hid hb1
  have HKY := Lib.hid hyc
  have e0 : w1.cell? ⟨k, 0, none⟩ = some (.int .i64 tm) := cell_of_row w1 _ 0 _ 25 (0, 0) hyc
  have e1 : w1.cell? ⟨k, 1, none⟩ = some (.slice A0 n0 c0) := cell_of_row w1 _ 1 _ 25 (0, 0) hyc
  have e2 : w1.cell? ⟨k, 2, none⟩ = some (.slice B0 mm0 d0) := cell_of_row w1 _ 2 _ 25 (0, 0) hyc
  clear hyc hb1
  by_cases hce : ce = 0
  · subst hce
    have hn16 : decide ((16 : Int) < (n : Int)) = false := decide_eq_false (by omega)
    have hn0 : (0 : Int) ≤ (n : Int) := by omega
    go_enter Try.func16, Try.ntmps16
    go_wp2_with (go_at_call 10; go_loud (refine HCH.out.mono ?_; rintro E wb ⟨rfl, hbc⟩; have HBC := Lib.hid hbc; have hzb := hbc.size; have k0 : wb.cell? ⟨k, 0, none⟩ = some (.int .i64 tm) := (hbc.cell (p := ⟨k, 0, none⟩) hl1).trans e0; have k1 : wb.cell? ⟨k, 1, none⟩ = some (.slice A0 n0 c0) := (hbc.cell (p := ⟨k, 1, none⟩) hl1).trans e1; have k2 : wb.cell? ⟨k, 2, none⟩ = some (.slice B0 mm0 d0) := (hbc.cell (p := ⟨k, 2, none⟩) hl1).trans e2; clear hbc))
    have HBb := Lib.hid (HBW.out.trans (HBC.out.mono HBW.out.size))
    have HAb := Lib.hid ((HA.out.below HBb.out).more HBb.out.size)
    have hkb : k < wb.heap.size := by omega
    clear HA HCH e0 e1 e2 HKY HBC HBW
    go_loopw [22] (fun x wr => ∃ j : Nat, j ≤ n ∧ x = .int .i64 (j : Int) ∧ Hid (∀ i, i < j → R i ≠ .nilIface) ∧ Hid (Below wb.heap.size wb wr)) (fun x _ => n - (intOf x).toNat)
    case atStart => exact ⟨0, by omega, rfl, Lib.hid (fun i hi => by omega), Lib.hid (Below.refl _ _)⟩
    case round =>
      obtain ⟨j, hj, rfl, HN, HB⟩ := hrel
      have hzr := HB.out.size
      by_cases hlt : j < n
      · obtain ⟨bb, off, rfl, hbb, hr⟩ := HAb.out (by omega)
        have d0 : wr.cell? ⟨bb, off + j, none⟩ = some (R j) := (HB.out.cell (p := ⟨bb, off + j, none⟩) hbb).trans (by have := hr j hlt 0 (R j) rfl; rwa [Nat.mul_one, Nat.add_zero] at this)
        have l1 : (j : Int) < (n : Int) := by omega
        have l0 : (0 : Int) ≤ (j : Int) := by omega
        have hwj : IntKind.i64.wrap ((j : Int) + 1) = (j : Int) + 1 := IntWalk.i64_in _ (by omega)
        clear hr
        by_cases hnil : R j = .nilIface
        · rw [hnil] at d0
          have HBad : Hid (∃ i, i < n ∧ R i = .nilIface) := Lib.hid ⟨j, hlt, hnil⟩
          clear hnil
          go_wp2
          go_ret2
          refine ⟨Or.inr (Or.inl ⟨by trivial, HBad.out, rfl⟩), ?_⟩
          first | exact HBb.out.trans (HB.out.mono HBb.out.size) | (rw [← HK.out]; exact HBb.out.trans (HB.out.mono HBb.out.size))
        · have HN2 := Lib.hid (show ∀ i, i < j + 1 → R i ≠ .nilIface from fun i hi => by
            rcases Nat.lt_or_ge i j with h | h
            · exact HN.out i h
            · obtain rfl : i = j := by omega
              exact hnil)
          rcases HRU.out (by trivial) j hlt with h | ⟨v, h, _⟩ | ⟨v, h, _⟩ | ⟨v, h, _⟩
          · exact absurd h hnil
          all_goals
            rw [h] at d0
            clear h hnil
            go_wp2
            go_roundw
            case rel => exact ⟨j + 1, by omega, by go_num, HN2, HB⟩
            case measure => simp [intOf]; omega
      · obtain rfl : n = j := by omega
        obtain ⟨wo, rfl⟩ : ∃ wo, wo = wr := ⟨_, rfl⟩
        have HGd : Hid (¬ ∃ i, i < n ∧ R i = .nilIface) := Lib.hid (fun ⟨i, h1, h2⟩ => HN.out i h1 h2)
        have HBo := Lib.hid (HBb.out.trans (HB.out.mono HBb.out.size))
        have HAo := Lib.hid ((HAb.out.below HB.out).more hzr)
        have hko : k < wo.heap.size := by omega
        have o0 := (HB.out.cell (p := ⟨k, 0, none⟩) hkb).trans k0
        have o1 := (HB.out.cell (p := ⟨k, 1, none⟩) hkb).trans k1
        have o2 := (HB.out.cell (p := ⟨k, 2, none⟩) hkb).trans k2
        clear k0 k1 k2 HB HBb HAb hzr
        obtain ⟨i51, E0, E1, E2, E3⟩ := info_parts alert_info
        go_wp2
        go_loopw [7, 31] (fun v x wr => ∃ (j m : Nat) (V : Option Addr) (cv : Nat), j ≤ n ∧ x = .int .i64 (j : Int) ∧ v = .slice V m cv ∧ Hid ((flA LL j).length = m) ∧ Hid (wr.ownsRow wo.heap.size 51 4 (.slice V m cv) m (rowsV alL (flA LL j))) ∧ Hid (Below wo.heap.size wo wr)) (fun _ x _ => n - (intOf x).toNat)
        case atStart => exact ⟨0, 0, none, 0, by omega, rfl, rfl, Lib.hid rfl, Lib.hid (World.ownsRow_nil _ _ _ _), Lib.hid (Below.refl _ _)⟩
        case round =>
          obtain ⟨j, m, V, cv, hj, rfl, rfl, HM, HO, HB⟩ := hrel
          have hzr := HB.out.size
          have hmj : m ≤ j * 1024 := by have h1 := HM.out; have h2 := flA_len (LL := LL) (B := 1024) j (fun i hi => HLL.out (by trivial) i (by omega)); omega
          by_cases hlt : j < n
          · obtain ⟨bb, off, rfl, hbb, hr⟩ := HAo.out (by omega)
            have d0 : wr.cell? ⟨bb, off + j, none⟩ = some (R j) := (HB.out.cell (p := ⟨bb, off + j, none⟩) hbb).trans (by have := hr j hlt 0 (R j) rfl; rwa [Nat.mul_one, Nat.add_zero] at this)
            have p0 := (HB.out.cell (p := ⟨k, 0, none⟩) hko).trans o0
            have p1 := (HB.out.cell (p := ⟨k, 1, none⟩) hko).trans o1
            have p2 := (HB.out.cell (p := ⟨k, 2, none⟩) hko).trans o2
            have l1 : (j : Int) < (n : Int) := by omega
            have l0 : (0 : Int) ≤ (j : Int) := by omega
            have hwj : IntKind.i64.wrap ((j : Int) + 1) = (j : Int) + 1 := IntWalk.i64_in _ (by omega)
            have HBwr := Lib.hid (HBo.out.trans (HB.out.mono HBo.out.size))
            have hLj := HLL.out (by trivial) j hlt
            have HSt : Hid (flA LL (j + 1) = flA LL j ++ LL j) := Lib.hid rfl
            have HSr := Lib.hid (show rowsV alL (flA LL (j + 1)) = rowsV alL (flA LL j) ++ rowsV alL (LL j) by rw [HSt.out, rowsV_append])
            have HMj := Lib.hid (show (flA LL (j + 1)).length = m + (LL j).length by rw [HSt.out, List.length_append, HM.out])
            have HRj := HRU.out (by trivial) j hlt
            have hnn := HN.out j hlt
            clear hr
            generalize LL j = Lj at *
            obtain ⟨q, hq⟩ : ∃ q, Lj.length = q := ⟨_, rfl⟩
            rcases HRj with h | ⟨v, h, hcl⟩ | ⟨v, h, hcl⟩ | ⟨v, h, hcl⟩
            · exact absurd h hnn
            all_goals
              rw [h] at d0
              have HCl := Lib.hid (hcl wr HBwr.out)
              clear h hnn hcl
              unfold AlsP at HCl
              rw [hq] at HCl HMj hLj
              have HQ := Lib.hid hq
              clear hq
              rcases Nat.eq_zero_or_pos q with hq0 | hq0
              · have HZ : Hid (q = 0 ∧ Lj = []) := Lib.hid ⟨hq0, List.eq_nil_of_length_eq_zero (HQ.out.trans hq0)⟩
                clear hq0
                have hcvm : m ≤ cv := by
                  rcases HO.out.2 with ⟨h1, h2⟩ | ⟨g, cap, cur, h1, h2, h3, h4, _⟩
                  · omega
                  · injection h1 with h1 h5 h6; omega
                have hrn : ∀ (U : Option Addr) (cu : Nat) (W : World), (Builtin.append_ #[35, 35] 35 #[.slice V m cv, .slice U q cu]).run Try.prog W = .ok (.slice V m cv) W := fun U cu W => by
                  rw [HZ.out.1]
                  exact run_append_nothing W 35 35 35 51 i51 Try.underlying35 E0 V m cv hcvm _ (by
                    cases U with
                    | none => exact Src.ofNil W Try.underlying35 cu
                    | some a => exact Src.ofSlice W Try.underlying35 a 0 cu [] (by simp) (fun j u h => by simp at h) (fun u h => by cases h))
                have HRN := Lib.hid hrn
                clear hrn
                go_wp2_with (first
                  | (go_at_call 106; go_loud (refine HCl.out.mono ?_; rintro E w4 ⟨⟨U, cu, rfl, hou⟩, hb4⟩; have HB4 := Lib.hid hb4; clear hb4 hou))
                  | (go_at_call 108; go_loud (refine HCl.out.mono ?_; rintro E w4 ⟨⟨U, cu, rfl, hou⟩, hb4⟩; have HB4 := Lib.hid hb4; clear hb4 hou))
                  | (go_at_call 17; go_loud (refine HCl.out.mono ?_; rintro E w4 ⟨⟨U, cu, rfl, hou⟩, hb4⟩; have HB4 := Lib.hid hb4; clear hb4 hou))
                  | (at_builtin; go_loud (refine wpList_append_runK w4 rfl (.tmp 35) (.tmp 38) 35 35 rfl _ _ rfl rfl (HRN.out U cu w4) ?_)))
                go_roundw
                case rel => exact ⟨j + 1, m, V, cv, by omega, by go_num, rfl, Lib.hid (by rw [HMj.out, HZ.out.1]; rfl), by rw [HSt.out, HZ.out.2, List.append_nil]; exact Lib.hid (own_below HO.out HB4.out (Nat.le_refl _)), Lib.hid (HB.out.trans (HB4.out.mono hzr))⟩
                case measure => simp [intOf]; omega
              · go_wp2_with (first
                  | (go_at_call 106; go_loud (refine HCl.out.mono ?_; rintro E w4 ⟨⟨U, cu, rfl, hou⟩, hb4⟩; obtain ⟨gu, cpu, hvu, hbu, hlu⟩ := hou.form hq0; obtain rfl : U = some ⟨gu, 0, none⟩ := (by injection hvu); have HO4 := Lib.hid (own_below HO.out hb4 (Nat.le_refl _)); have HU := Lib.hid hou; have HB4 := Lib.hid hb4; have hz4 := hb4.size; clear hvu hb4 hou))
                  | (go_at_call 108; go_loud (refine HCl.out.mono ?_; rintro E w4 ⟨⟨U, cu, rfl, hou⟩, hb4⟩; obtain ⟨gu, cpu, hvu, hbu, hlu⟩ := hou.form hq0; obtain rfl : U = some ⟨gu, 0, none⟩ := (by injection hvu); have HO4 := Lib.hid (own_below HO.out hb4 (Nat.le_refl _)); have HU := Lib.hid hou; have HB4 := Lib.hid hb4; have hz4 := hb4.size; clear hvu hb4 hou))
                  | (go_at_call 17; go_loud (refine HCl.out.mono ?_; rintro E w4 ⟨⟨U, cu, rfl, hou⟩, hb4⟩; obtain ⟨gu, cpu, hvu, hbu, hlu⟩ := hou.form hq0; obtain rfl : U = some ⟨gu, 0, none⟩ := (by injection hvu); have HO4 := Lib.hid (own_below HO.out hb4 (Nat.le_refl _)); have HU := Lib.hid hou; have HB4 := Lib.hid hb4; have hz4 := hb4.size; clear hvu hb4 hou))
                  | (at_builtin; go_loud (refine wpList_append_lies w4 rfl (.tmp 35) (.tmp 38) 35 rfl wo.heap.size 51 i51 (.agg #[.string ByteArray.empty, .int .i64 0, .int .i64 0, .int .i64 0]) 4 40 Try.underlying35 E0 E1 E2 E3 rfl (by decide) (.slice V m cv) m _ rfl HO4.out ⟨gu, 0, none⟩ q cu (rowsV alL Lj) rfl (by rw [rowsV_len alL_len, HQ.out]) (fun j u hu => HU.out.cells rfl j u hu) (rowsV_one alL_one Lj) hq0 (by simp only [maxLen]; omega) (by omega) (by omega) w4.heap.size rfl ?_); intro g6 cap6 w6 hv6 hg6 hat6 hlt6))
                go_roundw
                case rel =>
                  refine ⟨j + 1, m + q, some ⟨g6, 0, none⟩, cap6, by omega, by go_num, rfl, HMj, ?_, ?_⟩
                  · rw [HSr.out]; exact Lib.hid hv6
                  · exact Lib.hid ((HB.out.trans (HB4.out.mono hzr)).grown hg6 (by omega) (fun k' hk' => (HO4.out.lt k' hk').1))
                case measure => simp [intOf]; omega
          · obtain rfl : n = j := by omega
            have HSo := Lib.hid (SortA_any V cv m wo.heap.size (flA LL n) wr HO.out HM.out (by omega))
            unfold SortP at HSo
            have HCO := Lib.hid (fun (S : List Al) (W : World) h1 h2 h3 => Compact_any wo.heap.size m cv V S W h1 h2 h3 (by omega))
            go_wp2_with (first
              | (go_at_call 33; go_loud (refine HSo.out.mono ?_; rintro E w4 ⟨rfl, ⟨S, hp, hs, hos⟩, hb4⟩; have HP := Lib.hid hp; have HS := Lib.hid hs; have HOs := Lib.hid hos; have HB4 := Lib.hid (HB.out.trans (hb4 hzr)); clear hp hs hos hb4))
              | (go_at_call 38; go_loud (refine (HCO.out S w4 HOs.out (HP.out.length_eq.trans HM.out) HB4.out.size).mono ?_; rintro E w5 ⟨V5, q5, rfl, hq5, ho5, hb5⟩; have HO5 := Lib.hid ho5; have HQ5 := Lib.hid hq5; have HB5 := Lib.hid (HB4.out.trans hb5); clear ho5 hq5 hb5)))
            go_ret2
            have hml : S.length = m := HP.out.length_eq.trans HM.out
            refine ⟨Or.inr (Or.inr ⟨by trivial, HGd.out, V5, cv, ddN (fun i => S[i]!) m, by rw [← HQ5.out]; rfl, ⟨S, HP.out, HS.out, by rw [hml]⟩, ?_⟩), ?_⟩
            · rw [← HQ5.out]
              exact own_base HO5.out (by first | exact HBo.out.size | (rw [HK.out]; omega))
            · first | exact HBo.out.trans (HB5.out.mono HBo.out.size) | (rw [← HK.out]; exact HBo.out.trans (HB5.out.mono HBo.out.size))
  · have hpd : (ce == 0) = false := beq_eq_false_iff_ne.2 hce
    have hpe : (ce != 0) = true := bne_iff_ne.2 hce
    have HE := Lib.hid hce
    clear HRU HLL HA
    go_enter Try.func16, Try.ntmps16
    go_wp2_with (go_at_call 10; go_loud (refine HCH.out.mono ?_; rintro E wb ⟨rfl, hbc⟩; have HBC := Lib.hid (HBW.out.trans (hbc.mono HBW.out.size)); clear hbc))
    go_ret2
    refine ⟨Or.inl ⟨HE.out, rfl⟩, ?_⟩
    first | exact HBC.out | (rw [← HK.out]; exact HBC.out)
end Go.Proofs.Ytdmecagdjbjgjaa
