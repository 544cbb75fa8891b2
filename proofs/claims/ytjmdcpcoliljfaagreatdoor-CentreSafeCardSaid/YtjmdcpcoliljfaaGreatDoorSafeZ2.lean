/- CentreSafe returns true for every input. -/
import Derived.Test.YtjmdcpcoliljfaaGreatDoorSafeZ1
import Derived.Test.YtjmdcpcoliljfaaGreatDoorG04
import Derived.Maps.AppendAt
import Derived.Test.YtjmdcpcoliljfaaGreatDoorG20
/- The function given to run in CentreSafe. -/
namespace Go.Proofs.YtjmdcpcoliljfaaGreatDoor
open Go.RowKit

section
variable {P : Program}
theorem run_append_empty (w : World) (base : Nat) (t ty e : TypeId) (i : TypeInfo) (size : Nat) (ht : P.underlying t = some (.slice e)) (hi : P.info? e = some i)
    (v : Value) (n : Nat) (xs : List Value) (hown : w.ownsRow base e size v n xs) (c : Nat) : (Builtin.append_ #[t, t] ty #[v, .slice none 0 c]).run P w = .ok v w := by
  rcases hown.2 with ⟨rfl, rfl⟩ | ⟨g, cap, cur, rfl, _, _, hnc, _⟩
  all_goals simp [Builtin.append_, run_underlying ht, sizeOf, typeInfo, Builtin.lenOf, Builtin.firstCells, storeCells, *]
/-- 'append(v, l...)', l nil or not. -/
theorem wpList_append_l {ops : Array Oper} {rest : List Oper} {o : Oper} {a : Act} {w : World} {Q : Exit → Act → World → Prop} (hgd : o.guard = none) (s x : Operand) (t : TypeId)
    (ho : o.op = .call { callee := .builtin .append, args := #[s, x], argTypes := #[t, t] })
    (base : Nat) (e : TypeId) (i : TypeInfo) (z : Value) (size bytes : Nat) (ht : P.underlying t = some (.slice e)) (hi : P.info? e = some i) (hz : i.zero = some z)
    (hsize : i.size = size) (hby : i.bytes = bytes) (hzs : z.cells.size = size) (hsz : 0 < size)
    (v : Value) (n : Nat) (xs : List Value) (hs : a.eval s = v) (hown : w.ownsRow base e size v n xs)
    (A : Option Addr) (m c : Nat) (row : Nat → List Value) (hx : a.eval x = .slice A m c) (B : Nat) (hr : Sl w B size A m row) (hl : ∀ i, i < m → (row i).length = size) (h1 : ∀ u ∈ flatR row m, u.oneCell' = true)
    (hn : n + m ≤ 100000000) (hbytes : bytes ≤ 1000) (hbase : base ≤ w.heap.size) (hnil : A = none → m = 0)
    (h : ∀ v' w', w'.ownsRow base e size v' (n + m) (xs ++ flatR row m) → w.grownBy w' v.ownBlock → (v'.ownBlock = v.ownBlock ∨ v'.ownBlock = some w.heap.size) → wpList P ops Q rest (a.put o.dst v') w') : wpList P ops Q (o :: rest) a w := by
  refine wpList_plain hgd fun K hK => ?_
  have fin : ∀ v' w', (Builtin.append_ #[t, t] o.type #[v, .slice A m c]).run P w = .ok v' w' → w'.ownsRow base e size v' (n + m) (xs ++ flatR row m) → w.grownBy w' v.ownBlock → (v'.ownBlock = v.ownBlock ∨ v'.ownBlock = some w.heap.size) → o.wp P a w K Q := by
    intro v' w' hrun a1 a2 a3
    unfold Oper.wp execOp
    simp only [ho, resolve, invoke, builtin, Sem.run_bind, Sem.run_pure, Result.andThen_ok, List.map_toArray, List.map_cons, List.map_nil, hs, hx, hrun]
    exact hK _ _ (h v' w' a1 a2 a3)
  cases A with
  | none =>
    obtain rfl := hnil rfl
    refine fin v w (run_append_empty w base t o.type e i size ht hi v n xs hown c) ?_ (World.grownBy.refl w _) (.inl rfl)
    simpa [flatR] using hown
  | some ad =>
    have hnews := Sl_news hsz hr rfl hl
    have h63 : n + m ≤ maxLen := by simp only [maxLen]; omega
    have hby2 : (n + m) * bytes ≤ 140737488355328 := Nat.le_trans (Nat.mul_le_mul hn hbytes) (by decide)
    obtain ⟨v', w', hrun, h2, h3, _, h5⟩ := run_append_own_at (P := P) w base t o.type e i z size bytes ht hi hz hsize hby hzs hsz v n xs hown ad m c (flatR row m) (flatR_len m hl) hnews h1 h63 hby2 hbase
    exact fin v' w' hrun h2 h3 h5
end

/-- The nodes of the first j flights. -/
def Lns (fl : List Fl) (t : Int) (j : Nat) : List Nd := (List.range j).flatMap fun q => placesP fl[q]! t
theorem Lns_succ (fl : List Fl) (t : Int) (j : Nat) : Lns fl t (j + 1) = Lns fl t j ++ placesP fl[j]! t := by simp [Lns, List.range_succ]
theorem places_len (f : Fl) (t : Int) : (placesP f t).length ≤ 2 := by
  have h1 : ∀ l t, (nodeAt l t).length ≤ 1 := fun l t => by unfold nodeAt; split <;> simp
  have h2 : (legP f.legs t).length ≤ 1 := by
    unfold legP
    split
    · simp
    · exact h1 _ _
  unfold placesP
  rw [List.length_append]
  have := h1 f.next t
  omega
theorem Lns_len (fl : List Fl) (t : Int) : ∀ j, (Lns fl t j).length ≤ 2 * j
  | 0 => by simp [Lns]
  | j + 1 => by
    rw [Lns_succ, List.length_append]
    have := Lns_len fl t j
    have := places_len fl[j]! t
    omega
theorem Lns_mem {fl : List Fl} {t : Int} {j : Nat} {n : Nd} (h : n ∈ Lns fl t j) : ∃ q, q < j ∧ n ∈ placesP fl[q]! t := by
  unfold Lns at h
  obtain ⟨q, h1, h2⟩ := List.mem_flatMap.1 h
  exact ⟨q, List.mem_range.1 h1, h2⟩
theorem CloneTu_z : (Tryz.prog.info? 47).map (fun i => (i.zero, i.size, i.bytes)) = some (some (.agg #[.int .i64 0, .int .i64 0, .int .i64 0, .int .i64 0, .int .i64 0, .int .i64 0]), 6, 48) := by kernel_rfl

set_option maxRecDepth 100000 in
set_option maxHeartbeats 32000000 in
theorem cl22_any {F : Nat → Prop} {g B : Nat} {S : Su} {c : Ce} {w : World} (h : CeAt F g S c w) (hok : CeOk c) (hS : SuOk S) (hB : SuAt S B w) (hp : Pw (fun _ => True) (SafeTwo S) c.fl) (x : Inp) (A : Option Addr) (n cA : Nat) (k : Int) :
    Calls Tryz.prog 22 #[.pointer (some ⟨g, 0, none⟩), inpV x A n cA, .int .i64 k, .pointer (some ⟨B, 0, none⟩)] w fun e w' => e = .returned (.bool true) ∧ Below w.heap.size w w' := by
  obtain ⟨y, hM⟩ := h
  have HF := Lib.hid (fun (W : World) (hb : Below w.heap.size w W) => Flights_any (hM.below hb) hok)
  have HTm := Lib.hid (fun (W : World) (hb : Below w.heap.size w W) => Time_any (hM.below hb))
  have HB := Lib.hid hB
  have hBl : B < w.heap.size := (Array.getElem?_eq_some_iff.1 hB).1
  have HOk := Lib.hid hok
  have HP := Lib.hid hp
  have HS := Lib.hid hS
  have h24 : c.fl.length ≤ 24 := by have := hok.ow.n; have := hok.len; omega
  have ht0 := hok.t.1
  have ht1 := hok.t.2
  obtain ⟨ct, hct⟩ : ∃ ct, c.time = ct := ⟨_, rfl⟩
  rw [hct] at HTm ht0 ht1
  clear hM hok hB hp hS hct
  unfold inpV
  have tok : True := trivial
  by_cases hk : k = 0
  · subst hk
    go_enter Tryz.func22, Tryz.ntmps22
    go_upto_region 2 with (go_at_call 14; go_loud (refine (HF.out _ ((Below.refl _ _).alloc (Nat.le_refl _) _)).mono ?_; rintro e w1 ⟨⟨vA, vn, vc⟩, rfl, ⟨xs, ts, hX⟩, hb1⟩; have HX := Lib.hid hX; have HB1 := Lib.hid (((Below.refl _ w).alloc (Nat.le_refl _) _).trans (hb1.mono (by simp))); clear hX hb1; have HVn : Hid (vn = c.fl.length) := Lib.hid HX.out.n))
    by_cases h2 : vn < 2
    · have e2 : decide ((vn : Int) < 2) = true := decide_eq_true (by omega)
      go_wp2_with fail
      go_ret
      exact ⟨rfl, HB1.out⟩
    have e2 : decide ((vn : Int) < 2) = false := decide_eq_false (by omega)
    go_wp2_with (go_at_call 23; go_loud (refine (HTm.out _ HB1.out).mono ?_; rintro e w2 ⟨rfl, hb2⟩; have HB2 := Lib.hid (HB1.out.trans (hb2.mono HB1.out.size)); have HX2 := Lib.hid (HX.out.kept (.of_below hb2)); clear hb2))
    go_loopw [9] (fun s wr => ∃ τ : Int, s = .int .i64 τ ∧ ct ≤ τ ∧ τ ≤ ct + 306 ∧ Hid (Below w2.heap.size w2 wr)) (fun s _ => (ct + 307 - intOf s).toNat)
    case atStart => exact ⟨ct, rfl, by omega, by omega, Lib.hid (Below.refl _ _)⟩
    case round =>
      obtain ⟨τ, rfl, hτ0, hτ1, HBt⟩ := hrel
      obtain ⟨wt, hwt⟩ : ∃ wt : World, wt = wr := ⟨_, rfl⟩
      subst hwt
      have hzt := HBt.out.size
      have HBw := Lib.hid (HB2.out.trans (HBt.out.mono HB2.out.size))
      have v300 : IntKind.i64.wrap (ct + 300) = ct + 300 := IntWalk.i64_in _ (by omega)
      have v7 : IntKind.i64.wrap (τ + 7) = τ + 7 := IntWalk.i64_in _ (by omega)
      by_cases hlt : τ < ct + 300
      · have hltd : decide (τ < ct + 300) = true := decide_eq_true hlt
        go_wp2_with (go_at_call 23; go_loud (refine (HTm.out _ HBw.out).mono ?_; rintro e w3 ⟨rfl, hb3⟩; have HB3 := Lib.hid hb3; clear hb3))
        have HB3w := Lib.hid (HBt.out.trans (HB3.out.mono hzt))
        have HX3 := Lib.hid (HX2.out.kept (.of_below HB3w.out))
        have h0v : (0 : Int) ≤ (vn : Int) := by omega
        have hv24 : vn ≤ 24 := by have := HVn.out; omega
        go_loopw [41, 10] (fun s v wr => ∃ (j : Nat) (A10 : Option Addr) (c10 : Nat), j ≤ vn ∧ s = .int .i64 (j : Int) ∧ v = .slice A10 (Lns c.fl τ j).length c10 ∧ Hid (wr.ownsRow w3.heap.size 47 6 (.slice A10 (Lns c.fl τ j).length c10) (Lns c.fl τ j).length (rowsV ndV (Lns c.fl τ j))) ∧ Hid (Below w3.heap.size w3 wr)) (fun s _ _ => vn - (intOf s).toNat)
        case atStart => exact ⟨0, none, 0, by omega, rfl, rfl, Lib.hid (World.ownsRow_nil _ _ _ _), Lib.hid (Below.refl _ _)⟩
        case round =>
          obtain ⟨j, A10, c10, hj, rfl, rfl, HO, HBj⟩ := hrel
          obtain ⟨wj, hwj⟩ : ∃ wj : World, wj = wr := ⟨_, rfl⟩
          subst hwj
          have hzj := HBj.out.size
          by_cases hjt : j < vn
          · have l0 : (0 : Int) ≤ (j : Int) := by omega
            have l1 : (j : Int) < (vn : Int) := by omega
            have hjw : IntKind.i64.wrap ((j : Int) + 1) = (j : Int) + 1 := IntWalk.i64_in _ (by omega)
            have hjc : j < c.fl.length := by rw [← HVn.out]; exact hjt
            have HXj := Lib.hid (HX3.out.kept (.of_below HBj.out))
            obtain ⟨b, hA, hb, hcell⟩ := HXj.out.cells hjc
            have hA : vA = some ⟨b, 0, none⟩ := hA
            subst hA
            have hfm : c.fl[j]! ∈ c.fl := by rw [getElem!_pos c.fl j hjc]; exact List.getElem_mem hjc
            have HFok := Lib.hid (HOk.out.fl _ hfm)
            have HNi := Lib.hid hjc
            have HPl := Lib.hid (fun (W : World) (hb : Below wj.heap.size wj W) => Places24 ((HXj.out.fl j hjc).kept (.of_below hb)) HFok.out τ)
            have HSafe : Hid (∀ n ∈ placesP c.fl[j]! τ, ∀ m ∈ Lns c.fl τ j, NdOk n ∧ NdOk m ∧ n.t = m.t ∧ sepN n m S.lat S.vert = true) := Lib.hid (fun n hn m hm => by
              obtain ⟨q, hq, hmq⟩ := Lns_mem hm
              have hqc : q < c.fl.length := by omega
              have hqm : c.fl[q]! ∈ c.fl := by rw [getElem!_pos c.fl q hqc]; exact List.getElem_mem hqc
              obtain ⟨o1, o2⟩ := places_in HFok.out hn
              obtain ⟨o3, o4⟩ := places_in (HOk.out.fl _ hqm) hmq
              refine ⟨o1, o3, by rw [o2, o4], HP.out.t _ hfm _ hqm (fun e => ?_) τ n m hn hmq⟩
              have := calls_inj HOk.out hjc hqc e
              omega)
            have hns2 := places_len c.fl[j]! τ
            have hLl := Lns_len c.fl τ j
            have HLs : Hid (Lns c.fl τ (j + 1) = Lns c.fl τ j ++ placesP c.fl[j]! τ) := Lib.hid (Lns_succ _ _ _)
            obtain ⟨L, hL⟩ : ∃ L, Lns c.fl τ j = L := ⟨_, rfl⟩
            obtain ⟨L', hL'⟩ : ∃ L, Lns c.fl τ (j + 1) = L := ⟨_, rfl⟩
            have HL' := Lib.hid hL'
            obtain ⟨ns, hns⟩ : ∃ ns, placesP c.fl[j]! τ = ns := ⟨_, rfl⟩
            rw [hL] at HO HSafe hLl HLs ⊢
            rw [hns] at HPl HSafe hns2 HLs
            rw [hL'] at HLs
            obtain ⟨x, hx⟩ : ∃ x, xs[j]! = x := ⟨_, rfl⟩
            rw [hx] at HPl hcell
            have q0 := hcell 0 (by decide)
            have q1 := hcell 1 (by decide)
            have q2 := hcell 2 (by decide)
            have q3 := hcell 3 (by decide)
            have q4 := hcell 4 (by decide)
            have q5 := hcell 5 (by decide)
            have q6 := hcell 6 (by decide)
            have q7 := hcell 7 (by decide)
            simp only [fmV, List.getElem?_cons_succ, List.getElem?_cons_zero, Nat.add_zero] at q0 q1 q2 q3 q4 q5 q6 q7
            obtain ⟨fcall, fwake, fslot, flands, fla, fln, flc, fna, fnn, fnc, fland, fnland⟩ := x
            dsimp only at q0 q1 q2 q3 q4 q5 q6 q7
            unfold fmA PlcP at HPl
            dsimp only at HPl
            have HOs := Lib.hid (Sl_rows ndV_len HO.out rfl (by decide))
            clear hcell hfm hx hns hL hL'
            go_upto_region 11 with (fail)
            obtain ⟨w4, hw4⟩ : ∃ W, wj.alloc (.cells #[.string fcall, .int .i64 fwake, .int .i64 fslot, .bool flands, .slice fla fln flc, .slice fna fnn fnc, .int .i64 fland, .int .i64 fnland] 41) = W := ⟨_, rfl⟩
            rw [hw4]
            have hb4 : Below wj.heap.size wj w4 := by rw [← hw4]; exact (Below.refl _ _).alloc (Nat.le_refl _) _
            have hr4 : w4.heap[wj.heap.size]? = some (.cells #[.string fcall, .int .i64 fwake, .int .i64 fslot, .bool flands, .slice fla fln flc, .slice fna fnn fnc, .int .i64 fland, .int .i64 fnland] 41 (0, 0)) := by rw [← hw4]; exact heap_alloc_new _ _
            clear hw4 q0 q1 q2 q3 q4 q5 q6 q7
            have HB4 := Lib.hid hb4
            go_upto_region 14 with (first
              | (first | (refine wpList_load_row rfl 41 _ rfl wj.heap.size rfl 41 _ (0, 0) _ hr4 Tryz.underlying41 rfl (by kernel_rfl) ?_) | (refine wpList_load_row_w 41 _ rfl wj.heap.size rfl rfl 41 _ (0, 0) _ hr4 Tryz.underlying41 rfl (by kernel_rfl) ?_))
              | (go_at_call 24; go_loud (refine (HPl.out w4 HB4.out).mono ?_; rintro e w5 ⟨A5, c5, rfl, ho5, hb5⟩; have HO5 := Lib.hid ho5; have HB5 := Lib.hid (HB4.out.trans (hb5.mono HB4.out.size)); have HN5 := Lib.hid (Sl_rows ndV_len ho5 rfl (by decide)); clear ho5 hb5)))
            clear hb4 hr4
            have hz5 := HB5.out.size
            have h0m : (0 : Int) ≤ (ns.length : Int) := by omega
            obtain ⟨m, hm⟩ : ∃ m, ns.length = m := ⟨_, rfl⟩
            obtain ⟨lb, hlb⟩ : ∃ lb, L.length = lb := ⟨_, rfl⟩
            have HMm := Lib.hid hm
            have HLb := Lib.hid hlb
            rw [hm] at HO5 HN5 hns2 h0m
            rw [hlb] at HO HOs hLl
            clear hm hlb
            simp only [HMm.out, HLb.out]
            go_wp2_with fail
            go_loopw [55] (fun s wr => ∃ r : Nat, r ≤ m ∧ s = .int .i64 (r : Int) ∧ Hid (Below w5.heap.size w5 wr)) (fun s _ => m - (intOf s).toNat)
            case atStart => exact ⟨0, by omega, rfl, Lib.hid (Below.refl _ _)⟩
            case round =>
              obtain ⟨r, hr, rfl, HBr⟩ := hrel
              obtain ⟨wn, hwn⟩ : ∃ wn : World, wn = wr := ⟨_, rfl⟩
              subst hwn
              have hzn := HBr.out.size
              have HBn := Lib.hid (HB5.out.trans (HBr.out.mono hz5))
              by_cases hrt : r < m
              · have a0 : (0 : Int) ≤ (r : Int) := by omega
                have a1 : (r : Int) < (m : Int) := by omega
                have arw : IntKind.i64.wrap ((r : Int) + 1) = (r : Int) + 1 := IntWalk.i64_in _ (by omega)
                obtain ⟨b5, off5, hA5, hb5, hr5⟩ := (HN5.out.below HBr.out) (by omega)
                subst hA5
                have rr : ∀ q u, (ndV ns[r]!)[q]? = some u → wn.cell? ⟨b5, off5 + r * 6 + q, none⟩ = some u := hr5 r hrt
                have hnm : ns[r]! ∈ ns := by rw [getElem!_pos ns r (by rw [HMm.out]; exact hrt)]; exact List.getElem_mem _
                have HSr := Lib.hid (HSafe.out _ hnm)
                obtain ⟨nd, hnd⟩ : ∃ nd, ns[r]! = nd := ⟨_, rfl⟩
                rw [hnd] at rr HSr
                have k0 := rr 0 _ rfl
                have k1 := rr 1 _ rfl
                have k2 := rr 2 _ rfl
                have k3 := rr 3 _ rfl
                have k4 := rr 4 _ rfl
                have k5 := rr 5 _ rfl
                simp only [Nat.add_zero] at k0
                clear rr hr5 hnm hnd
                go_upto_region 17 with (fail)
                obtain ⟨w6, hw6⟩ : ∃ W, wn.alloc (.cells #[.int .i64 nd.t, .int .i64 nd.x, .int .i64 nd.y, .int .i64 nd.h, .int .i64 nd.r, .int .i64 nd.b] 47) = W := ⟨_, rfl⟩
                rw [hw6]
                have hb6 : Below wn.heap.size wn w6 := by rw [← hw6]; exact (Below.refl _ _).alloc (Nat.le_refl _) _
                have hr6 : w6.heap[wn.heap.size]? = some (.cells #[.int .i64 nd.t, .int .i64 nd.x, .int .i64 nd.y, .int .i64 nd.h, .int .i64 nd.r, .int .i64 nd.b] 47 (0, 0)) := by rw [← hw6]; exact heap_alloc_new _ _
                have hz6 : w6.heap.size = wn.heap.size + 1 := by rw [← hw6, size_al]
                clear hw6 k0 k1 k2 k3 k4 k5
                have HB6 := Lib.hid hb6
                have HR6 := Lib.hid hr6
                clear hb6 hr6
                go_wp2_with fail
                go_loopw [61] (fun s wr => ∃ q : Nat, q ≤ lb ∧ s = .int .i64 (q : Int) ∧ Hid (Below w6.heap.size w6 wr)) (fun s _ => lb - (intOf s).toNat)
                case atStart => exact ⟨0, by omega, rfl, Lib.hid (Below.refl _ _)⟩
                case round =>
                  obtain ⟨q, hq, rfl, HBq⟩ := hrel
                  obtain ⟨wq, hwq⟩ : ∃ wq : World, wq = wr := ⟨_, rfl⟩
                  subst hwq
                  have hzq := HBq.out.size
                  have HBo := Lib.hid (HBn.out.trans ((HB6.out.trans (HBq.out.mono (by omega))).mono HBn.out.size))
                  by_cases hqt : q < lb
                  · have b0 : (0 : Int) ≤ (q : Int) := by omega
                    have b1 : (q : Int) < (lb : Int) := by omega
                    have bqw : IntKind.i64.wrap ((q : Int) + 1) = (q : Int) + 1 := IntWalk.i64_in _ (by omega)
                    obtain ⟨b7, off7, hA7, hb7, hr7⟩ := (HOs.out.below HBo.out) (by omega)
                    subst hA7
                    have rr : ∀ z u, (ndV L[q]!)[z]? = some u → wq.cell? ⟨b7, off7 + q * 6 + z, none⟩ = some u := hr7 q hqt
                    have hmm : L[q]! ∈ L := by rw [getElem!_pos L q (by rw [HLb.out]; exact hqt)]; exact List.getElem_mem _
                    obtain ⟨o1, o2, o3, o4⟩ := HSr.out _ hmm
                    obtain ⟨md, hmd⟩ : ∃ md, L[q]! = md := ⟨_, rfl⟩
                    rw [hmd] at rr o2 o3 o4
                    have k0 := rr 0 _ rfl
                    have k1 := rr 1 _ rfl
                    have k2 := rr 2 _ rfl
                    have k3 := rr 3 _ rfl
                    have k4 := rr 4 _ rfl
                    have k5 := rr 5 _ rfl
                    simp only [Nat.add_zero] at k0
                    have HSp := Lib.hid (fun (W : World) => (Separated_any nd md S.lat S.vert W o1 o2 o3 HS.out.lat HS.out.vert).mono fun e W2 hh => (show e = .returned (.tuple #[.bool true, .int .i64 0]) ∧ Below W.heap.size W W2 from ⟨by rw [hh.1, o4], hh.2⟩))
                    unfold ndA at HSp
                    clear rr hr7 hmm hmd o1 o2 o3 o4
                    go_upto_region 20 with (fail)
                    obtain ⟨w8, hw8⟩ : ∃ W, wq.alloc (.cells #[.int .i64 md.t, .int .i64 md.x, .int .i64 md.y, .int .i64 md.h, .int .i64 md.r, .int .i64 md.b] 47) = W := ⟨_, rfl⟩
                    rw [hw8]
                    have hb8 : Below wq.heap.size wq w8 := by rw [← hw8]; exact (Below.refl _ _).alloc (Nat.le_refl _) _
                    have hr8 : w8.heap[wq.heap.size]? = some (.cells #[.int .i64 md.t, .int .i64 md.x, .int .i64 md.y, .int .i64 md.h, .int .i64 md.r, .int .i64 md.b] 47 (0, 0)) := by rw [← hw8]; exact heap_alloc_new _ _
                    have hg8 : w8.heap[wn.heap.size]? = some (.cells #[.int .i64 nd.t, .int .i64 nd.x, .int .i64 nd.y, .int .i64 nd.h, .int .i64 nd.r, .int .i64 nd.b] 47 (0, 0)) := ((HBq.out.trans (hb8.mono hzq)).block wn.heap.size (by omega)).trans HR6.out
                    have hs8 : SuAt S B w8 := ((HBw.out.trans ((HB3.out.trans ((HBj.out.trans ((HBo.out.trans (hb8.mono HBo.out.size)).mono hzj)).mono HB3.out.size)).mono HBw.out.size)).block B hBl).trans HB.out
                    have u0 : w8.cell? ⟨B, 0, none⟩ = some (.int .i64 S.lat) := cell_of_row w8 _ 0 _ _ _ hs8
                    have u1 : w8.cell? ⟨B, 1, none⟩ = some (.int .i64 S.vert) := cell_of_row w8 _ 1 _ _ _ hs8
                    have HB8 := Lib.hid hb8
                    clear hw8 hb8 hs8 k0 k1 k2 k3 k4 k5
                    go_wp2_with (first
                      | (first | (refine wpList_load_row rfl 47 _ rfl wn.heap.size rfl 47 _ (0, 0) _ hg8 Tryz.underlying47 rfl (by kernel_rfl) ?_) | (refine wpList_load_row_w 47 _ rfl wn.heap.size rfl rfl 47 _ (0, 0) _ hg8 Tryz.underlying47 rfl (by kernel_rfl) ?_) | (refine wpList_load_row rfl 47 _ rfl wq.heap.size rfl 47 _ (0, 0) _ hr8 Tryz.underlying47 rfl (by kernel_rfl) ?_) | (refine wpList_load_row_w 47 _ rfl wq.heap.size rfl rfl 47 _ (0, 0) _ hr8 Tryz.underlying47 rfl (by kernel_rfl) ?_))
                      | (go_at_call 25; go_loud (refine (HSp.out w8).mono ?_; rintro e w9 ⟨rfl, hb9⟩; have HB9 := Lib.hid (HB8.out.trans (hb9.mono HB8.out.size)); clear hb9)))
                    go_roundw
                    case rel => exact ⟨q + 1, by omega, by go_num, Lib.hid (HBq.out.trans (HB9.out.mono hzq))⟩
                    case measure => simp [intOf]; omega
                  · obtain rfl : lb = q := by omega
                    go_wp2_with fail
                    go_roundw
                    case rel => exact ⟨r + 1, by omega, by go_num, Lib.hid (HBr.out.trans ((HB6.out.trans (HBq.out.mono (by omega))).mono hzn))⟩
                    case measure => simp [intOf]; omega
              · obtain rfl : m = r := by omega
                have hwn := own_below HO.out HBn.out (Nat.le_refl _)
                have hz3n : w3.heap.size ≤ wn.heap.size := by have := HBn.out.size; omega
                obtain ⟨i47, J0, J1, J2, J3⟩ := info_parts CloneTu_info
                have hN5 := HN5.out.below HBr.out
                have hnil5 := (own_nil HO5.out)
                have hone : ∀ u ∈ flatR (fun i => ndV ns[i]!) m, u.oneCell' = true := fun u hu => by
                  obtain ⟨q, _, hu⟩ := flatR_mem hu
                  simp only [ndV, List.mem_cons, List.not_mem_nil, or_false] at hu
                  rcases hu with rfl | rfl | rfl | rfl | rfl | rfl <;> rfl
                have HWn := Lib.hid hwn
                have HN6 := Lib.hid hN5
                have HNil := Lib.hid hnil5
                have HOne := Lib.hid hone
                clear hwn hN5 hnil5 hone
                go_wp2_with (at_builtin; refine wpList_append_l rfl (.tmp 81) (.tmp 82) 32 rfl w3.heap.size 47 i47 _ 6 48 Tryz.underlying32 J0 J1 J2 J3 rfl (by decide) (.slice A10 lb c10) lb (rowsV ndV L) rfl HWn.out A5 m c5 (fun i => ndV ns[i]!) rfl w5.heap.size HN6.out (fun _ _ => rfl) HOne.out (by omega) (by decide) hz3n (fun h => (HNil.out h).1) ?_; intro v' w10 hown hg hat)
                have hfl : flatR (fun i => ndV ns[i]!) m = rowsV ndV ns := by rw [rowsV_flat (enc := ndV) ndV_len, HMm.out]
                rw [hfl, ← rowsV_append, ← HLs.out] at hown
                have hll : L'.length = lb + m := by rw [HLs.out, List.length_append, HLb.out, HMm.out]
                rw [← hll] at hown
                obtain ⟨A', c', rfl⟩ := own_shape hown
                have HOw := Lib.hid hown
                have HG := Lib.hid hg
                clear hown hg hat hfl
                go_roundw
                case rel =>
                  refine ⟨j + 1, A', c', by omega, by go_num, by rw [HL'.out], ?_, ?_⟩
                  · rw [HL'.out]; exact Lib.hid HOw.out
                  · exact Lib.hid ((HBj.out.trans (HBn.out.mono hzj)).grown HG.out hz3n (fun k hk => (HWn.out.lt k hk).1))
                case measure => simp [intOf]; omega
          · obtain rfl : vn = j := by omega
            go_wp2_with fail
            go_roundw
            case rel => exact ⟨τ + 7, rfl, by omega, by omega, Lib.hid (HB3w.out.trans (HBj.out.mono HB3w.out.size))⟩
            case measure => simp [intOf]; omega
      · have hltd : decide (τ < ct + 300) = false := decide_eq_false hlt
        go_wp2_with (go_at_call 23; go_loud (refine (HTm.out _ HBw.out).mono ?_; rintro e w3 ⟨rfl, hb3⟩; have HB3 := Lib.hid hb3; clear hb3))
        go_ret
        exact ⟨rfl, HBw.out.trans (HB3.out.mono HBw.out.size)⟩
  · have ek : (k != 0) = true := by simpa using hk
    go_enter Tryz.func22, Tryz.ntmps22
    go_wp2_with (go_at_call 14; go_loud (refine (HF.out _ ((Below.refl _ _).alloc (Nat.le_refl _) _)).mono ?_; rintro e w1 ⟨⟨vA, vn, vc⟩, rfl, _, hb1⟩; have HB1 := Lib.hid (((Below.refl _ w).alloc (Nat.le_refl _) _).trans (hb1.mono (by simp))); clear hb1))
    go_ret
    exact ⟨rfl, HB1.out⟩
end Go.Proofs.YtjmdcpcoliljfaaGreatDoor

/- CentreSafe: the walk. -/
namespace Go.Proofs.YtjmdcpcoliljfaaGreatDoor
open Go.RowKit

/-- What holds in CentreSafe behind any number of inputs. -/
def SafeJ (S : Su) (B : Nat) (_ : Nat) (c : Ce) (F : Nat → Prop) (w : World) : Prop := SuAt S B w ∧ ¬ F B ∧ Pw (fun _ => True) (SafeTwo S) c.fl
theorem run22 (S : Su) (l : List Inp) (hs : List Hd) (N N1 m B : Nat) (hm : m ≤ 14) (hN : N ≤ N1) (hB : B < N1) : RunF kindsS S l hs N N1 m 22 #[.pointer (some ⟨B, 0, none⟩)] (SafeJ S B) := by
  intro k c F F' g wa wb hk hS hok hacc hJ hF hF' hN1 hb hc hof hsub _
  obtain ⟨h1, h2, h4⟩ := hJ
  have hp := step_safe hok kindsS (l[k]!) h4
  have hs := h1.off hof h2
  refine (cl22_any hc (step_ok hok (by omega) kindsS _) hS hs hp _ _ _ _ _).mono ?_
  rintro e w' ⟨r1, r2⟩
  exact ⟨r1, .of_below r2 (by have := hof.size; omega), hs.below r2, fun h => by have := hF' B h; omega, hp⟩
set_option maxRecDepth 100000 in
set_option maxHeartbeats 8000000 in
theorem safe_any (S : Su) (l : List Inp) (hs : List Hd) (A : Option Addr) (n cA : Nat) (w : World) (h : ArgOk S l hs A n cA w) :
    Calls Tryz.prog 6 #[suA S, .slice A n cA] w fun e w' => e = .returned (.bool true) ∧ Below w.heap.size w w' := by
  obtain ⟨V, hV, hbV, hzV, hgB⟩ := ArgOk.setup (S := S) (w := w)
  have HGB := Lib.hid hgB
  have HBV := Lib.hid hbV
  have HFa := Lib.hid (fact_any V (h.ks.below hbV h.pos) (by omega))
  have HR := Lib.hid (fun (W : World) (hb : Below V.heap.size V W) => (run_any S l hs w.heap.size n (min n 14) A cA 22 #[.pointer (some ⟨w.heap.size, 0, none⟩)] (SafeJ S w.heap.size) W kindsS (h.ks.below (hbV.trans (hb.mono hbV.size)) h.pos) kindsS_ok h.pos (Nat.le_trans hbV.size hb.size) rfl (h.ins.below (hbV.trans (hb.mono hbV.size))) h.cap h.nil
    (fun k c F W1 W2 hJ hb2 => ⟨hJ.1.below hb2, hJ.2⟩) (fun F W1 hb2 hF => ⟨((hb.trans (hb2.mono hb.size)).block w.heap.size (by omega)).trans hgB, fun hf => by have := hF _ hf; have := hb.size; omega, Pw.nil⟩) ⟨_, _, rfl, by kernel_rfl, rfl⟩ (run22 S l hs _ _ _ _ (by omega) (Nat.le_trans hbV.size hb.size) (by have := hb.size; omega))).mono fun e W' hh => (show e = .returned (.bool true) ∧ Below w.heap.size W W' from ⟨hh.1, hh.2.1⟩))
  unfold suA setupA at HR ⊢
  clear hbV hgB h
  go_enter Tryz.func6, Tryz.ntmps6
  go_wp2_with (first
    | (first | (refine wpList_load_row rfl 27 _ rfl w.heap.size rfl 27 _ (0, 0) _ HG1.out Tryz.underlying27 rfl (by kernel_rfl) ?_) | (refine wpList_load_row_w 27 _ rfl w.heap.size rfl rfl 27 _ (0, 0) _ HG1.out Tryz.underlying27 rfl (by kernel_rfl) ?_))
    | (go_at_call 11; go_loud (refine HFa.out.mono ?_; rintro e w1 ⟨rfl, hb1⟩; have HG1 := Lib.hid ((hb1.block w.heap.size (by omega)).trans HGB.out); have HB1 := Lib.hid hb1; clear hb1))
    | (go_at_call 12; go_loud (refine (HR.out w1 HB1.out).mono ?_; rintro e w2 ⟨rfl, hb2⟩; have HB2 := Lib.hid hb2; clear hb2)))
  go_ret
  exact ⟨rfl, (HBV.out.trans (HB1.out.mono HBV.out.size)).trans HB2.out⟩
end Go.Proofs.YtjmdcpcoliljfaaGreatDoor

/- CentreSafe returns true for every input. -/
namespace Go.Proofs.YtjmdcpcoliljfaaGreatDoor
open Go.ChangeShapes Go.WideShapes Go.ChangeAt Go.RowKit Go.ChangeMaps

set_option maxRecDepth 100000 in
theorem CentreSafe_lifted (os : Os) (started : os.Started) (H : Type) (enc : TypeId × Value → H) :
    ReturnsInHanded {} Tryz.checked os 6 .any (fun w args => (Rows.centreSafeSpec.pre enc Tryz.prog Tryz.f6 [] false w args ∧ laidMetH Tryz.prog laid7 w) ∧ sizedMet enc Tryz.prog Tryz.f6 (OpenSpec.ofChange Rows.centreSafeSpec) false w args) (Rows.centreSafeSpec.post enc Tryz.prog Tryz.f6 false true false false) := by
  refine Law.lifted laid7 started (by kernel_rfl) Tryz.func6 (by kernel_rfl) (tb := 4) rfl Tryz.underlying4 rfl (fun H ds hl => ?_)
    (ChangeSpec.witness_shaped (enc := enc) (C := Tryz.checked) (os := os) (X := fun w _ => laidMetH Tryz.prog laid7 w) false (World.laidAll Tryz.prog os laid7) #[.agg #[.int .i64 0, .int .i64 0, .int .i64 0, .int .i64 0, .int .i64 0, .int .i64 0, .int .i64 0, .int .i64 0, .int .i64 0, .int .i64 0, .int .i64 0, .int .i64 0, .int .i64 0, .int .i64 0, .int .i64 0, .int .i64 0, .int .i64 0, .int .i64 0], .slice none 0 0] 8 (World.laidAll_os _ _ _) (World.shaped_of_ZipB (by kernel_rfl) (by kernel_rfl)) (by kernel_rfl) (by kernel_rfl) (by kernel_rfl) (door_met os _)) ?_
  · match ds, hl with
    | [d0, d1], _ => rfl
  intro W base args ds p hval hA hwt hlt hlaid hsh
  rw [Tryz.params6] at hA hval
  obtain ⟨hks, h0W⟩ := ks_of hlaid
  obtain ⟨v0, v1, d0, d1, p0, p1, rfl, rfl, rfl, h0, h1⟩ := trodAll_two hA
  obtain ⟨S, rfl⟩ := open_setup (hval 0 27 v0 rfl rfl) h0
  obtain ⟨A, n, cA, l, hs, rfl, hI, hn, hc, hnil⟩ := open_inps (hval 1 28 v1 rfl rfl) h1
  exact safe_any S l hs A n cA W ⟨hks, h0W, hI, ⟨hn, hc⟩, hnil⟩

theorem CentreSafe_row : Rows.CentreSafeSaid :=
  OpenClaim.holds_of_wide 6 Tryz.f6 rfl rfl rfl rfl rfl rfl rfl ⟨rfl, rfl, rfl, rfl, rfl⟩ rfl rfl rfl rfl rfl (by kernel_rfl) Tryz.func6 (by kernel_rfl)
    (of_decide_eq_true (by kernel_rfl)) (by unfold Func.isWrapper; rw [if_neg (of_decide_eq_false (by kernel_rfl))]; exact ⟨rfl, rfl⟩)
    (fun os started H enc _ => CentreSafe_lifted os started H enc)

theorem CentreSafe_holds : Rows.CentreSafeCardSaid :=
  Claim7.holds_tied_plain_at .later [] [.data, .data, .pinned] true (true, "b04f4bc368db86cd971aec41a7157e911366481ce75ba95dee482ec0a4a43df3") false
    CentreSafe_row (fun _ h => by cases h) (by kernel_rfl) (fun _ h => by cases h) centreSafe_row_tie rfl ⟨rfl, rfl⟩ (by kernel_rfl) rfl
    (fun f fn hf hfn => by
      obtain rfl : f = 6 := Option.some.inj ((show Tryz.prog.funcNamed "skyway/skywaykeep4.CentreSafe" = some 6 by kernel_rfl).symm.trans hf) |>.symm
      obtain rfl : fn = Tryz.f6 := (Option.some.inj (Tryz.func6.symm.trans hfn)).symm
      exact ⟨by kernel_rfl, fun j t ht => by
        rw [Tryz.params6] at ht
        have hm : t ∈ [27, 28] := by simpa using Array.mem_of_getElem? ht
        have hall : ([27, 28].all fun u => !Tryz.prog.wantsStandIn u) = true := by kernel_rfl
        exact (show Tryz.prog.wantsStandIn t = false by simpa using List.all_eq_true.1 hall t hm)⟩)
    (by kernel_rfl)
end Go.Proofs.YtjmdcpcoliljfaaGreatDoor

