/- The walk of RecordSpoilt. -/
import Derived.Test.YtahdjndpefclkaaDoorM5
import Derived.Test.YtahdjndpefclkaaDoorM4
namespace Go.Proofs.YtahdjndpefclkaaDoor
open Go.RowKit
open Go.Lib hiding intOf

theorem below_bytes (w : World) (e : TypeId) (s : ByteArray) : Below w.heap.size w (bytesWorld w e s) :=
  ⟨rfl, rfl, rfl, by rw [bytesWorld_size]; omega, fun k hk => bytesWorld_at_old w e s k hk⟩

theorem xor_zero8 (a : Nat) (ha : a < 256) : bits .xor .u8 (a : Int) 0 = (a : Int) := by
  have h1 : (BitVec.ofInt 8 (a : Int)).toNat = a := by
    rw [BitVec.ofInt_natCast, BitVec.toNat_ofNat]; exact Nat.mod_eq_of_lt (by omega)
  have h2 : (BitVec.ofInt 8 (0 : Int)).toNat = 0 := by decide
  show IntKind.u8.wrap ((BitVec.ofInt 8 (a : Int) ^^^ BitVec.ofInt 8 (0 : Int)).toNat : Int) = _
  rw [BitVec.toNat_xor, h1, h2, Nat.xor_zero]
  simp [IntKind.wrap, IntKind.bits, IntKind.signed]
  omega

theorem set_self {l : L8} {p : Nat} {b : UInt8} (h : l[p]? = some b) : l.set p b = l := by
  obtain ⟨h1, h2⟩ := List.getElem?_eq_some_iff.1 h
  rw [← h2]
  exact List.set_getElem_self h1

/-- The row behind the changed byte. -/
theorem spoilt_cells (w : World) (S : ByteArray) (p : Nat) (Z : Int) (v : UInt8) (hp : p < S.size) (hv : (v.toNat : Int) = Z) (k : Nat) (b : UInt8) (hk : ((bl S).set p v)[k]? = some b) :
    ((bytesWorld w 5 S).setCell ⟨w.heap.size, p, none⟩ (.int .u8 Z)).cell? ⟨w.heap.size, k, none⟩ = some (.int .u8 (b.toNat : Int)) := by
  have hkS : k < S.size := by
    have := (List.getElem?_eq_some_iff.1 hk).1
    rw [List.length_set, size_bl] at this
    exact this
  have hc := bytesWorld_cell w 5 S k hkS
  by_cases h : p = k
  · subst h
    rw [List.getElem?_set_self (by rw [size_bl]; exact hp)] at hk
    cases hk
    rw [World.cell?_setCell_same' _ _ _ (by rw [hc]; rfl), hv]
  · rw [List.getElem?_set_ne h] at hk
    have hne : (⟨w.heap.size, p, none⟩ : Addr) ≠ ⟨w.heap.size, k, none⟩ := by intro x; injection x with _ x _; exact h x
    rw [World.cell?_setCell_other _ _ _ _ hne, hc, List.getD_eq_getElem?_getD]
    have : S.data.toList[k]? = some b := hk
    rw [this]
    rfl

set_option maxRecDepth 100000 in
set_option maxHeartbeats 4000000 in
theorem Spoilt_walk (A : Option Addr) (n c : Nat) (f : Nat → Ent) (z y : Int) (w : World) (hA : Sl w w.heap.size 4 A n (fun i => rowE (f i))) (hf : ∀ i, i < n → Wf (f i)) (hc : n ≤ c) (hcm : c ≤ maxLen) (hnil : A = none → n = 0 ∧ c = 0) (hy : 0 ≤ y ∧ y ≤ 255) (he : Env w) :
    Calls Tryd.prog 8 #[.slice A n c, .int .i64 z, .int .u8 y] w fun v w' => v = .returned (.bool true) ∧ Below w.heap.size w w' := by
  have HLo := Lib.hid (logOf_any A n c (min n 12) f w hA hf hc hcm hnil rfl)
  have HE := Lib.hid he
  have HFa := Lib.hid (fun W (hW : Env W) => fact_any W hW)
  have HY := Lib.hid hy
  clear hA hf hnil he hy
  go_enter Tryd.func8, Tryd.ntmps8
  go_wp2_with fail
  refine HLo.out.mono ?_
  rintro e w1 ⟨L, rfl, ⟨A1, c1, hL1⟩, hok, hl12, hb1⟩
  have HL1 := Lib.hid hL1
  have HOk := Lib.hid hok
  go_wp2_with fail
  refine (HFa.out _ (HE.out.below hb1)).mono ?_
  rintro e w2 ⟨rfl, hb2⟩
  have B2 := bstep hb1 hb2
  have HL2 := Lib.hid (HL1.out.below hb2)
  have HBy := Lib.hid (Bytes_any HL2.out (fun i e h => (HOk.out.1 i e h).2) (by omega) (HE.out.below B2))
  have hlS := encs_len (l := L) (fun i e h => (HOk.out.1 i e h).2)
  obtain ⟨S, hS⟩ : ∃ S, mk (encs L) = S := ⟨_, rfl⟩
  have hSb : bl S = encs L := by rw [← hS, bl_mk]
  have hSz : S.size = (encs L).length := by rw [← hS, size_mk]
  rw [hS] at HBy
  have HSb := Lib.hid hSb
  have HSz := Lib.hid hSz
  have hS2 : S.size ≤ 1920 := by omega
  have kc := fun (W : World) => Go.Lib.run_convert_string_bytes (P := Tryd.prog) W 9 46 5 S Tryd.underlying9 Tryd.underlying46 Tryd.underlying5
  clear hb2 hL1 hok hb1 hS hSb hSz hlS
  by_cases hz : S.size = 0
  · go_wp2_with fail
    refine HBy.out.mono ?_
    rintro e w3 ⟨rfl, hb3⟩
    have B3 := bstep B2 hb3
    have hfin := bstep B3 (below_bytes w3 5 S)
    have HFin := Lib.hid hfin
    clear hfin
    go_wp2
    go_ret
    exact ⟨rfl, HFin.out⟩
  · go_wp2_with fail
    refine HBy.out.mono ?_
    rintro e w3 ⟨rfl, hb3⟩
    have B3 := bstep B2 hb3
    have HL3 := Lib.hid (HL2.out.below hb3)
    have hcb := cutI_bd (n := z) (lo := 0) (hi := (S.size : Int) - 1) (by omega)
    obtain ⟨p, hp⟩ : ∃ p : Nat, cutI z 0 ((S.size : Int) - 1) = (p : Int) := ⟨(cutI z 0 ((S.size : Int) - 1)).toNat, by omega⟩
    have hps : p < S.size := by omega
    have HP := Lib.hid hp
    have hbW := bstep B3 (below_bytes w3 5 S)
    have HBW := Lib.hid hbW
    have hsw : IntKind.i64.wrap ((S.size : Int) - 1) = (S.size : Int) - 1 := IntWalk.i64_in _ (by omega)
    clear hb3 hcb hp hbW
    go_wp2_with fail
    refine (Cut_any _ _ _ _ (by omega) (by omega) (by omega)).mono ?_
    rintro e w3' ⟨rfl, rfl⟩
    rw [HP.out]
    obtain ⟨b, hb⟩ : ∃ b, (bl S)[p]? = some b := ⟨_, List.getElem?_eq_getElem (by rw [size_bl]; exact hps)⟩
    have hc0 := bytesWorld_cell w3 5 S p hps
    have hbd : S.data.toList.getD p 0 = b := by
      have : S.data.toList[p]? = some b := hb
      rw [List.getD_eq_getElem?_getD, this]; rfl
    rw [hbd] at hc0
    have hat := bytesWorld_at_new w3 5 S
    have hcs : S.size ≤ (bytesCells w3 5 S).size := by
      unfold bytesCells
      rw [Array.size_append, Array.size_map]
      exact Nat.le_add_right _ _
    have hfz : (bytesWorld w3 5 S).frozen? ⟨w3.heap.size, p, none⟩ = false := by
      unfold World.frozen?
      simp [hat]
      omega
    have hcw : S.size ≤ grownCap w3 S.size 0 5 := grownCap_ge _ _ _ _
    have hp0 : (0 : Int) ≤ (p : Int) := by omega
    have hpS : (p : Int) < (S.size : Int) := by omega
    have HB := Lib.hid hb
    have HAt := Lib.hid hat
    clear hb hbd hat hcs
    go_upto_region 9 with (fail)
    obtain ⟨Z, hZ⟩ : ∃ Z, bits BinOp.xor IntKind.u8 (b.toNat : Int) y = Z := ⟨_, rfl⟩
    rw [hZ]
    have hz1 : 0 ≤ Z := by rw [← hZ]; exact bits_lo_u8 _ _ _
    have hz2 : Z ≤ 255 := by rw [← hZ]; exact bits_hi_u8 _ _ _
    obtain ⟨v, hv⟩ : ∃ v : UInt8, (v.toNat : Int) = Z := ⟨UInt8.ofNat Z.toNat, by rw [UInt8.toNat_ofNat_of_lt' (by show Z.toNat < 256; omega)]; omega⟩
    have HV0 : Hid (y = 0 → v = b) := Lib.hid (fun h0 => by
      rw [h0, xor_zero8 _ (UInt8.toNat_lt b)] at hZ
      exact UInt8.toNat_inj.1 (by omega))
    have hcells := spoilt_cells w3 S p Z v hps hv
    have hbW : Below w.heap.size w ((bytesWorld w3 5 S).setCell ⟨w3.heap.size, p, none⟩ (.int .u8 Z)) := HBW.out.setCell (p := ⟨w3.heap.size, p, none⟩) B3.size _
    have hb3W : Below w3.heap.size w3 ((bytesWorld w3 5 S).setCell ⟨w3.heap.size, p, none⟩ (.int .u8 Z)) := (below_bytes w3 5 S).setCell (p := ⟨w3.heap.size, p, none⟩) (Nat.le_refl _) _
    obtain ⟨g3, hg3⟩ : ∃ g3, w3.heap.size = g3 := ⟨_, rfl⟩
    obtain ⟨W8, hW8⟩ : ∃ W8, (bytesWorld w3 5 S).setCell ⟨w3.heap.size, p, none⟩ (.int .u8 Z) = W8 := ⟨_, rfl⟩
    rw [hW8] at hcells hbW hb3W ⊢
    have HL8 := Lib.hid (HL3.out.below hb3W)
    have hkb := fun cap W (hW : ∀ k b, ((bl S).set p v)[k]? = some b → W.cell? ⟨w3.heap.size, k, none⟩ = some (.int .u8 (b.toNat : Int))) => conv_back W w3.heap.size cap ((bl S).set p v) hW
    have hln : ((bl S).set p v).length = S.size := by rw [List.length_set, size_bl]
    rw [hln] at hkb
    have hkb1 := fun cap => hkb cap W8 hcells
    have hkb2 := fun cap q => hkb cap (W8.drewN q) hcells
    have hkb3 := fun cap => hkb cap W8.drew hcells
    have B8 := hbW
    have HRe := Lib.hid (Recover_any (mk ((bl S).set p v)) W8 (by rw [size_mk, hln]; omega) (HE.out.below B8))
    have HV := Lib.hid hv
    clear hkb hcells hZ hz1 hz2 hv hW8 hg3 hbW hb3W hc0 hfz kc hln
    go_wp2_with fail
    refine HRe.out.mono ?_
    rintro e w9 ⟨l, rest, rfl, ⟨A2, c2, hL9⟩, hok9, hsr, hst, hb9⟩
    rw [bl_mk, HSb.out] at hsr
    have B9 := bstep B8 hb9
    have HK9 := Lib.hid hL9
    have HL9 := Lib.hid (HL8.out.below hb9)
    have HKo := Lib.hid hok9
    have HSr := Lib.hid hsr
    have HSt := Lib.hid hst
    have hll := hok9.len
    have HEn := Lib.hid (Entries_all HL9.out (by omega))
    clear hkb1 hkb2 hkb3 hb9 hL9 hok9 hsr hst
    go_wp2_with fail
    refine HEn.out.mono ?_
    rintro e wa ⟨A3, c3, rfl, hc3, hcm3, hn3, hsa, hba⟩
    have Ba := bstep B9 hba
    have HSa := Lib.hid hsa
    have HLa := Lib.hid (HL9.out.below hba)
    have HKa := Lib.hid (HK9.out.below hba)
    have HEa := Lib.hid (HE.out.below Ba)
    have HBa := Lib.hid Ba
    clear hsa hba
    go_wp2
    go_loopw [13, 14, 15, 16, 17, 61] (fun t13 _ _ _ _ i wr => ∃ (m o : Nat), m ≤ L.length ∧ i = .int .i64 (m : Int) ∧ t13 = .int .i64 (o : Int) ∧ o = (encs (L.take m)).length ∧ Below wa.heap.size wa wr) (fun _ _ _ _ _ i _ => L.length - (intOf i).toNat)
    case atStart => exact ⟨0, 0, by omega, rfl, rfl, rfl, Below.refl _ _⟩
    case round =>
      obtain ⟨m, o, hm, rfl, rfl, ho, hbr⟩ := hrel
      have HO := Lib.hid ho
      clear ho
      by_cases hlt : m < L.length
      · obtain ⟨x, hx⟩ : ∃ x, L[m]? = some x := ⟨L[m], List.getElem?_eq_getElem hlt⟩
        have hox := (HOk.out.1 m x hx).2
        obtain ⟨b1, off, rfl, hb1, q0, q1, q2, q3⟩ := Sl.four HSa.out m hlt
        rw [hx] at q0 q1 q2 q3
        simp only [Option.getD_some] at q0 q1 q2 q3
        have o0 := (hbr.cell (p := ⟨b1, off + m * 4, none⟩) hb1).trans q0
        have o1 := (hbr.cell (p := ⟨b1, off + m * 4 + 1, none⟩) hb1).trans q1
        have o2 := (hbr.cell (p := ⟨b1, off + m * 4 + 2, none⟩) hb1).trans q2
        have o3 := (hbr.cell (p := ⟨b1, off + m * 4 + 3, none⟩) hb1).trans q3
        have HEc := Lib.hid (fun W hW => Encode_ok x W hox hW)
        have hsn := encs_snoc hx
        have hel := (encL_len hox)
        have hez := size_mk (encL x)
        have hse := encs_len (l := L.take m) (fun i e hi => (HOk.out.1 i e (by rw [List.getElem?_take] at hi; split at hi <;> simp_all)).2)
        rw [List.length_take] at hse
        have ho2 : o ≤ 1920 := by rw [HO.out]; omega
        obtain ⟨F, hF⟩ : ∃ F, mk (encL x) = F := ⟨_, rfl⟩
        rw [hF] at HEc hez
        have hlen : (encs (L.take (m + 1))).length = o + F.size := by rw [hsn, List.length_append, ← HO.out, hez]
        have hF1 : F.size ≤ 160 := by omega
        have HLen := Lib.hid hlen
        have hbx : ∀ v, Below wa.heap.size wa (wr.alloc (.cells v 23)) := fun v => hbr.alloc hbr.size _
        have HBx := Lib.hid hbx
        have hj0 : (0 : Int) ≤ (m : Int) := by omega
        have hjL : (m : Int) < (L.length : Int) := by omega
        have how : IntKind.i64.wrap ((o : Int) + (F.size : Int)) = (o : Int) + (F.size : Int) := IntWalk.i64_in _ (by omega)
        have HX := Lib.hid hx
        obtain ⟨xn, xt, xk, xx⟩ := x
        have hnew := heap_alloc_new wr (.cells #[.int .i64 xn, .int .i64 xt, .string xk, .string xx] 23)
        have HNew := Lib.hid hnew
        have hnz : wr.heap.size < (wr.alloc (.cells #[.int .i64 xn, .int .i64 xt, .string xk, .string xx] 23)).heap.size := (Array.getElem?_eq_some_iff.1 hnew).1
        have HNz := Lib.hid hnz
        unfold valE at HEc
        simp only at HEc o0 o1 o2 o3
        clear hx hox q0 q1 q2 q3 hsn hel hez hF hlen hbx hse hnew hnz
        go_wp2_with fail
        refine (HEc.out _ (HEa.out.below (HBx.out _))).mono ?_
        rintro e wc ⟨rfl, hbc⟩
        have Bc := bstep (HBx.out _) hbc
        have hnc := (hbc.block _ HNz.out).trans HNew.out
        have HNc := Lib.hid hnc
        have hwc : wr.heap.size < wc.heap.size := (Array.getElem?_eq_some_iff.1 hnc).1
        have k0 := cell_of_row _ _ 0 _ _ _ hnc
        have k1 := cell_of_row _ _ 1 _ _ _ hnc
        have k2 := cell_of_row _ _ 2 _ _ _ hnc
        have k3 := cell_of_row _ _ 3 _ _ _ hnc
        clear hnc hbc
        by_cases hat : o + F.size ≤ p
        · have hat1 : decide ((o : Int) + (F.size : Int) ≤ (p : Int)) = true := by simp; omega
          have HAt2 := Lib.hid hat
          clear hat
          have hpre := spoilt_pre HOk.out HKo.out HSt.out HSr.out (m := m + 1) (by rw [HLen.out]; exact HAt2.out)
          have hml : m < l.length := spoilt_len hpre (by omega) hlt
          have hxm := (hpre m (by omega) hlt).trans HX.out
          have hml' : (m : Int) < (l.length : Int) := by omega
          have HXm := Lib.hid hxm
          have dge1 : decide ((l.length : Int) ≤ (m : Int)) = false := by simp; omega
          have dge2 : decide (l.length ≤ m) = false := by simp; omega
          have hbe := fun W => run_eqE ⟨xn, xt, xk, xx⟩ ⟨xn, xt, xk, xx⟩ W
          rw [eqE_refl] at hbe
          unfold valE at hbe
          simp only at hbe
          have Hk0 := Lib.hid k0
          have Hk1 := Lib.hid k1
          have Hk2 := Lib.hid k2
          have Hk3 := Lib.hid k3
          have HEB := Lib.hid (fun (W : World) (hW : Below wc.heap.size wc W) => Entries_all ((HKa.out.below Bc).below hW) (by omega))
          have HR := Lib.hid (Below.refl wc.heap.size wc)
          clear hpre hxm
          go_upto_region 18 with (fail)
          refine wp_region_held_drew (S := (fun u => u.cell? ⟨wr.heap.size, 0, none⟩ = some (.int .i64 xn) ∧ u.cell? ⟨wr.heap.size, 1, none⟩ = some (.int .i64 xt) ∧ u.cell? ⟨wr.heap.size, 2, none⟩ = some (.string xk) ∧ u.cell? ⟨wr.heap.size, 3, none⟩ = some (.string xx))) (by kernel_rfl) ?_ (fun hHeld => ?_)
          · exact ⟨Hk0.out, Hk1.out, Hk2.out, Hk3.out⟩
          refine wpAnyH_take (i := 0) (oi := { dst := some 75, op := Op.move (Operand.tmp 17), type := 25, pos := "store.go:116", after := #[], guard := none }) (v := ?_) rfl (by kernel_rfl) (by kernel_rfl) (by kernel_rfl) (fun _ _ _ h => h) (Or.inl ⟨by rfl, ?_⟩) (by assumption) ?_
          rotate_left
          · intro w hSw; (try dsimp only at hSw); go_simp; try with_reducible rfl
          try simp only [Act.put, List.setIfInBounds_toArray, List.set_cons_zero, List.set_cons_succ]
          refine wpAnyH_take (i := 1) (oi := { dst := some 76, op := Op.binOp BinOp.neq 25 (Operand.tmp 75) (Operand.const (Value.int IntKind.i64 0)) 25, type := 4, pos := "store.go:116", after := #[{ on := 0, ground := Ground.data }], guard := none }) (v := ?_) rfl (by kernel_rfl) (by kernel_rfl) (by kernel_rfl) (fun _ _ _ h => h) (Or.inl ⟨by rfl, ?_⟩) (by assumption) ?_
          rotate_left
          · intro w hSw; (try dsimp only at hSw); go_simp; try with_reducible rfl
          try simp only [Act.put, List.setIfInBounds_toArray, List.set_cons_zero, List.set_cons_succ]
          refine wpAnyH_take (i := 2) (oi := { dst := some 77, op := Op.move (Operand.tmp 76), type := 4, pos := "store.go:116", after := #[{ on := 1, ground := Ground.data }], guard := none }) (v := ?_) rfl (by kernel_rfl) (by kernel_rfl) (by kernel_rfl) (fun _ _ _ h => h) (Or.inl ⟨by rfl, ?_⟩) (by assumption) ?_
          rotate_left
          · intro w hSw; (try dsimp only at hSw); go_simp; try with_reducible rfl
          try simp only [Act.put, List.setIfInBounds_toArray, List.set_cons_zero, List.set_cons_succ]
          refine wpAnyH_take (i := 3) (oi := { dst := some 78, op := Op.move (Operand.tmp 13), type := 3, pos := "store.go:116", after := #[{ on := 2, ground := Ground.guard }], guard := some (2, false) }) (v := ?_) rfl (by kernel_rfl) (by kernel_rfl) (by kernel_rfl) (fun _ _ _ h => h) (Or.inl ⟨by rfl, ?_⟩) (by assumption) ?_
          rotate_left
          · intro w hSw; (try dsimp only at hSw); go_simp; try with_reducible rfl
          try simp only [Act.put, List.setIfInBounds_toArray, List.set_cons_zero, List.set_cons_succ]
          refine wpAnyH_take (i := 4) (oi := { dst := some 79, op := Op.move (Operand.tmp 1), type := 3, pos := "store.go:116", after := #[{ on := 2, ground := Ground.guard }], guard := some (2, false) }) (v := ?_) rfl (by kernel_rfl) (by kernel_rfl) (by kernel_rfl) (fun _ _ _ h => h) (Or.inl ⟨by rfl, ?_⟩) (by assumption) ?_
          rotate_left
          · intro w hSw; (try dsimp only at hSw); go_simp; try with_reducible rfl
          try simp only [Act.put, List.setIfInBounds_toArray, List.set_cons_zero, List.set_cons_succ]
          refine wpAnyH_take (i := 5) (oi := { dst := some 80, op := Op.binOp BinOp.leq 3 (Operand.tmp 78) (Operand.tmp 79) 3, type := 4, pos := "store.go:116", after := #[{ on := 3, ground := Ground.data }, { on := 4, ground := Ground.data }, { on := 2, ground := Ground.guard }], guard := some (2, false) }) (v := ?_) rfl (by kernel_rfl) (by kernel_rfl) (by kernel_rfl) (fun _ _ _ h => h) (Or.inl ⟨by rfl, ?_⟩) (by assumption) ?_
          rotate_left
          · intro w hSw; (try dsimp only at hSw); go_simp; try with_reducible rfl
          try simp only [Act.put, List.setIfInBounds_toArray, List.set_cons_zero, List.set_cons_succ]
          refine wpAnyH_take (i := 6) (oi := { dst := some 81, op := Op.move (Operand.tmp 80), type := 4, pos := "store.go:116", after := #[{ on := 5, ground := Ground.data }, { on := 2, ground := Ground.chain }, { on := 2, ground := Ground.guard }], guard := some (2, false) }) (v := ?_) rfl (by kernel_rfl) (by kernel_rfl) (by kernel_rfl) (fun _ _ _ h => h) (Or.inl ⟨by rfl, ?_⟩) (by assumption) ?_
          rotate_left
          · intro w hSw; (try dsimp only at hSw); go_simp; try with_reducible rfl
          try simp only [Act.put, List.setIfInBounds_toArray, List.set_cons_zero, List.set_cons_succ]
          refine wpAnyH_take (i := 7) (oi := { dst := some 82, op := Op.move (Operand.tmp 14), type := 3, pos := "store.go:116", after := #[{ on := 6, ground := Ground.guard }], guard := some (6, true) }) (v := ?_) rfl (by kernel_rfl) (by kernel_rfl) (by kernel_rfl) (fun _ _ _ h => h) (Or.inl ⟨by rfl, ?_⟩) (by assumption) ?_
          rotate_left
          · intro w hSw; (try dsimp only at hSw); go_simp; try with_reducible rfl
          try simp only [Act.put, List.setIfInBounds_toArray, List.set_cons_zero, List.set_cons_succ]
          refine wpAnyH_take (i := 8) (oi := { dst := some 83, op := Op.move (Operand.tmp 9), type := 35, pos := "store.go:116", after := #[{ on := 6, ground := Ground.guard }], guard := some (6, true) }) (v := ?_) rfl (by kernel_rfl) (by kernel_rfl) (by kernel_rfl) (fun _ _ _ h => h) (Or.inl ⟨by rfl, ?_⟩) (by assumption) ?_
          rotate_left
          · intro w hSw; (try dsimp only at hSw); go_simp; try with_reducible rfl
          try simp only [Act.put, List.setIfInBounds_toArray, List.set_cons_zero, List.set_cons_succ]
          refine wpAnyH_ready (rs := [9]) (by kernel_rfl) (by simp) ?_
          refine AllReadyH.cons (o := { dst := some 84, op := Op.call { callee := Callee.value (Operand.func 18), args := #[Operand.tmp 83, Operand.const (Value.int IntKind.i64 1)], argTypes := #[35, 3] }, type := 34, pos := "store.go:116", after := #[{ on := 8, ground := Ground.data }, { on := 6, ground := Ground.chain }, { on := 6, ground := Ground.guard }], guard := some (6, true) }) rfl (fun K hK => ?_) AllReadyH.nil
          go_simp
          refine (HEB.out _ (by first | exact HR.out | exact below_drewN HR.out _ | exact below_drewN (below_drewN HR.out _) _)).mono ?_
          rintro e w7 ⟨A7, c7, rfl, _, _, _, _, hb7⟩
          have hv7 : Below wc.heap.size wc w7 := (by first | exact hb7 | exact Below.trans (below_drewN HR.out _) hb7)
          have hS7 := Lib.hid hv7
          have n0 := (hv7.cell (p := ⟨wr.heap.size, 0, none⟩) hwc).trans Hk0.out
          have n1 := (hv7.cell (p := ⟨wr.heap.size, 1, none⟩) hwc).trans Hk1.out
          have n2 := (hv7.cell (p := ⟨wr.heap.size, 2, none⟩) hwc).trans Hk2.out
          have n3 := (hv7.cell (p := ⟨wr.heap.size, 3, none⟩) hwc).trans Hk3.out
          go_wp2_with fail
          refine hK.out _ _ ?_ (fun hHeld => ?_)
          · exact ⟨n0, n1, n2, n3⟩
          clear hK K
          try simp only [Act.put, List.setIfInBounds_toArray, List.set_cons_zero, List.set_cons_succ]
          refine wpAnyH_take (i := 10) (oi := { dst := some 85, op := Op.call { callee := Callee.builtin Builtin.len, args := #[Operand.tmp 84], argTypes := #[34] }, type := 3, pos := "store.go:116", after := #[{ on := 9, ground := Ground.data }, { on := 6, ground := Ground.guard }], guard := some (6, true) }) (v := ?_) rfl (by kernel_rfl) (by kernel_rfl) (by kernel_rfl) (fun _ _ _ h => h) (Or.inl ⟨by rfl, ?_⟩) (by assumption) ?_
          rotate_left
          · intro w hSw; (try dsimp only at hSw); go_simp; try with_reducible rfl
          try simp only [Act.put, List.setIfInBounds_toArray, List.set_cons_zero, List.set_cons_succ]
          refine wpAnyH_take (i := 11) (oi := { dst := some 86, op := Op.binOp BinOp.geq 3 (Operand.tmp 82) (Operand.tmp 85) 3, type := 4, pos := "store.go:116", after := #[{ on := 7, ground := Ground.data }, { on := 10, ground := Ground.data }, { on := 6, ground := Ground.guard }], guard := some (6, true) }) (v := ?_) rfl (by kernel_rfl) (by kernel_rfl) (by kernel_rfl) (fun _ _ _ h => h) (Or.inl ⟨by rfl, ?_⟩) (by assumption) ?_
          rotate_left
          · intro w hSw; (try dsimp only at hSw); go_simp; try with_reducible rfl
          try simp only [Act.put, List.setIfInBounds_toArray, List.set_cons_zero, List.set_cons_succ]
          refine wpAnyH_take (i := 12) (oi := { dst := some 87, op := Op.move (Operand.tmp 86), type := 4, pos := "store.go:116", after := #[{ on := 11, ground := Ground.data }, { on := 9, ground := Ground.chain }, { on := 6, ground := Ground.guard }], guard := some (6, true) }) (v := ?_) rfl (by kernel_rfl) (by kernel_rfl) (by kernel_rfl) (fun _ _ _ h => h) (Or.inl ⟨by rfl, ?_⟩) (by assumption) ?_
          rotate_left
          · intro w hSw; (try dsimp only at hSw); go_simp; try with_reducible rfl
          try simp only [Act.put, List.setIfInBounds_toArray, List.set_cons_zero, List.set_cons_succ]
          refine wpAnyH_take (i := 13) (oi := { dst := some 88, op := Op.move (Operand.tmp 9), type := 35, pos := "store.go:116", after := #[{ on := 12, ground := Ground.guard }], guard := some (12, false) }) (v := ?_) rfl (by kernel_rfl) (by kernel_rfl) (by kernel_rfl) (fun _ _ _ h => h) (Or.inl ⟨by rfl, ?_⟩) (by assumption) ?_
          rotate_left
          · intro w hSw; (try dsimp only at hSw); go_simp; try with_reducible rfl
          try simp only [Act.put, List.setIfInBounds_toArray, List.set_cons_zero, List.set_cons_succ]
          refine wpAnyH_take (i := 15) (oi := { dst := some 90, op := Op.move (Operand.tmp 14), type := 3, pos := "store.go:116", after := #[{ on := 12, ground := Ground.guard }], guard := some (12, false) }) (v := ?_) rfl (by kernel_rfl) (by kernel_rfl) (by kernel_rfl) (fun _ _ _ h => h) (Or.inl ⟨by rfl, ?_⟩) (by assumption) ?_
          rotate_left
          · intro w hSw; (try dsimp only at hSw); go_simp; try with_reducible rfl
          try simp only [Act.put, List.setIfInBounds_toArray, List.set_cons_zero, List.set_cons_succ]
          refine wpAnyH_take (i := 18) (oi := { dst := some 93, op := Op.load 23 (Operand.tmp 15), type := 23, pos := "store.go:116", after := #[{ on := 12, ground := Ground.guard }], guard := some (12, false) }) (v := ?_) rfl (by kernel_rfl) (by kernel_rfl) (by kernel_rfl) (fun _ _ _ h => h) (Or.inl ⟨by rfl, ?_⟩) (by assumption) ?_
          rotate_left
          · intro w hSw; (try dsimp only at hSw); go_simp; try with_reducible rfl
          try simp only [Act.put, List.setIfInBounds_toArray, List.set_cons_zero, List.set_cons_succ]
          refine wpAnyH_ready (rs := [14]) (by kernel_rfl) (by simp) ?_
          refine AllReadyH.cons (o := { dst := some 89, op := Op.call { callee := Callee.value (Operand.func 18), args := #[Operand.tmp 88, Operand.const (Value.int IntKind.i64 1)], argTypes := #[35, 3] }, type := 34, pos := "store.go:116", after := #[{ on := 13, ground := Ground.data }, { on := 12, ground := Ground.chain }, { on := 12, ground := Ground.guard }], guard := some (12, false) }) rfl (fun K hK => ?_) AllReadyH.nil
          go_simp
          refine (HEB.out _ (by first | exact hv7 | exact below_drewN hv7 _ | exact below_drewN (below_drewN hv7 _) _)).mono ?_
          rintro e w8 ⟨A8, c8, rfl, _, _, _, hs8, hb8⟩
          have hb8' : Below w7.heap.size w7 w8 := (by first | exact hb8 | exact Below.trans (below_drewN (Below.refl _ w7) _) hb8)
          have hv8 : Below wc.heap.size wc w8 := hv7.trans (hb8'.mono hv7.size)
          have i0 := (hv8.cell (p := ⟨wr.heap.size, 0, none⟩) hwc).trans Hk0.out
          have i1 := (hv8.cell (p := ⟨wr.heap.size, 1, none⟩) hwc).trans Hk1.out
          have i2 := (hv8.cell (p := ⟨wr.heap.size, 2, none⟩) hwc).trans Hk2.out
          have i3 := (hv8.cell (p := ⟨wr.heap.size, 3, none⟩) hwc).trans Hk3.out
          obtain ⟨b8, off8, rfl, hb8b, r0, r1, r2, r3⟩ := Sl.four hs8 m hml
          rw [HXm.out] at r0 r1 r2 r3
          simp only [Option.getD_some] at r0 r1 r2 r3
          go_wp2_with fail
          refine hK.out _ _ ?_ (fun hHeld => ?_)
          · exact ⟨i0, i1, i2, i3⟩
          clear hK K
          try simp only [Act.put, List.setIfInBounds_toArray, List.set_cons_zero, List.set_cons_succ]
          refine wpAnyH_take (i := 16) (oi := { dst := some 91, op := Op.indexAddr 34 (Operand.tmp 89) (Operand.tmp 90), type := 0, pos := "store.go:116", after := #[{ on := 14, ground := Ground.data }, { on := 15, ground := Ground.data }, { on := 12, ground := Ground.guard }], guard := some (12, false) }) (v := ?_) rfl (by kernel_rfl) (by kernel_rfl) (by kernel_rfl) (fun _ _ _ h => h) (Or.inl ⟨by rfl, ?_⟩) (by assumption) ?_
          rotate_left
          · intro w hSw; (try dsimp only at hSw); go_simp; try with_reducible rfl
          try simp only [Act.put, List.setIfInBounds_toArray, List.set_cons_zero, List.set_cons_succ]
          refine wpAnyH_ready (rs := [17]) (by kernel_rfl) (by simp) ?_
          refine AllReadyH.cons (o := { dst := some 92, op := Op.load 23 (Operand.tmp 91), type := 23, pos := "store.go:116", after := #[{ on := 16, ground := Ground.data }, { on := 12, ground := Ground.guard }], guard := some (12, false) }) rfl (fun K hK => ?_) AllReadyH.nil
          go_simp
          refine hK.out _ _ ?_ (fun hHeld => ?_)
          · exact ⟨i0, i1, i2, i3⟩
          clear hK K
          try simp only [Act.put, List.setIfInBounds_toArray, List.set_cons_zero, List.set_cons_succ]
          refine wpAnyH_take (i := 19) (oi := { dst := some 94, op := Op.binOp BinOp.neq 23 (Operand.tmp 92) (Operand.tmp 93) 23, type := 4, pos := "store.go:116", after := #[{ on := 17, ground := Ground.data }, { on := 18, ground := Ground.data }, { on := 12, ground := Ground.guard }], guard := some (12, false) }) (v := ?_) rfl (by kernel_rfl) (by kernel_rfl) (by kernel_rfl) (fun _ _ _ h => h) (Or.inl ⟨by rfl, ?_⟩) (by assumption) ?_
          rotate_left
          · intro w hSw; (try dsimp only at hSw); go_simp; try with_reducible rfl
          try simp only [Act.put, List.setIfInBounds_toArray, List.set_cons_zero, List.set_cons_succ]
          refine wpAnyH_take (i := 20) (oi := { dst := some 95, op := Op.pick (Operand.tmp 87) (Operand.const (Value.bool true)) (Operand.tmp 94), type := 4, pos := "store.go:116", after := #[{ on := 12, ground := Ground.data }, { on := 19, ground := Ground.data }, { on := 6, ground := Ground.guard }], guard := some (6, true) }) (v := ?_) rfl (by kernel_rfl) (by kernel_rfl) (by kernel_rfl) (fun _ _ _ h => h) (Or.inl ⟨by rfl, ?_⟩) (by assumption) ?_
          rotate_left
          · intro w hSw; (try dsimp only at hSw); go_simp; try with_reducible rfl
          try simp only [Act.put, List.setIfInBounds_toArray, List.set_cons_zero, List.set_cons_succ]
          refine wpAnyH_take (i := 21) (oi := { dst := some 96, op := Op.pick (Operand.tmp 81) (Operand.tmp 95) (Operand.const (Value.bool false)), type := 4, pos := "store.go:116", after := #[{ on := 6, ground := Ground.data }, { on := 20, ground := Ground.data }, { on := 2, ground := Ground.guard }], guard := some (2, false) }) (v := ?_) rfl (by kernel_rfl) (by kernel_rfl) (by kernel_rfl) (fun _ _ _ h => h) (Or.inl ⟨by rfl, ?_⟩) (by assumption) ?_
          rotate_left
          · intro w hSw; (try dsimp only at hSw); go_simp; try with_reducible rfl
          try simp only [Act.put, List.setIfInBounds_toArray, List.set_cons_zero, List.set_cons_succ]
          refine wpAnyH_take (i := 22) (oi := { dst := some 97, op := Op.pick (Operand.tmp 77) (Operand.const (Value.bool true)) (Operand.tmp 96), type := 4, pos := "store.go:116", after := #[{ on := 2, ground := Ground.data }, { on := 21, ground := Ground.data }], guard := none }) (v := ?_) rfl (by kernel_rfl) (by kernel_rfl) (by kernel_rfl) (fun _ _ _ h => h) (Or.inl ⟨by rfl, ?_⟩) (by assumption) ?_
          rotate_left
          · intro w hSw; (try dsimp only at hSw); go_simp; try with_reducible rfl
          try simp only [Act.put, List.setIfInBounds_toArray, List.set_cons_zero, List.set_cons_succ]
          refine wpAnyH_done (by kernel_rfl) ?_ _
          all_goals go_wp2
          all_goals go_roundw
          all_goals first
            | (simp [intOf]; omega)
            | exact ⟨m + 1, o + F.size, by omega, by go_num, by first | rfl | go_num, HLen.out.symm, by first | exact Bc.trans (hv8.mono Bc.size) | exact below_drewN (Bc.trans (hv8.mono Bc.size)) _ | exact below_drewN (below_drewN (Bc.trans (hv8.mono Bc.size)) _) _⟩
        · have hat1 : decide ((o : Int) + (F.size : Int) ≤ (p : Int)) = false := by simp; omega
          clear hat
          go_upto_region 18 with (fail)
          go_quiet (fail)
          go_wp2
          go_roundw
          case rel => exact ⟨m + 1, o + F.size, by omega, by go_num, by first | rfl | go_num, HLen.out.symm, below_drewN Bc _⟩
          case measure => simp [intOf]; omega
      · obtain rfl : L.length = m := by omega
        have Br := bstep Ba hbr
        by_cases hy0 : y = 0
        · subst hy0
          have hLl : l = L := recov_eq HKo.out HOk.out HSt.out (by rw [← HSr.out, HV0.out rfl]; exact (set_self (by rw [← HSb.out]; exact HB.out)).symm)
          have hlm : l.length = L.length := by rw [hLl]
          have HLl := Lib.hid hLl
          have HEB := Lib.hid (fun (W : World) (hW : Below wr.heap.size wr W) => Entries_all ((HKa.out.below hbr).below hW) (by omega))
          rw [hlm, hLl] at HEB
          have HR := Lib.hid (Below.refl wr.heap.size wr)
          clear hLl
          go_wp2_with fail
          refine (HEB.out _ HR.out).mono ?_
          rintro e w7 ⟨A7, c7, rfl, _, _, _, hs7, hb7⟩
          have hw7 : Below wa.heap.size wa w7 := hbr.trans (hb7.mono hbr.size)
          have hsA := Lib.hid ((HSa.out.below hw7).more hw7.size)
          go_wp2_with fail
          refine (EqualE A7 A3 (fun k => (L[k]?).getD zeroE) L.length _ _ _ _ hs7 hsA.out (by omega)).mono ?_
          rintro e w9 ⟨rfl, q9, rfl⟩
          go_wp2
          go_ret
          exact ⟨rfl, below_drewN (bstep Br hb7) _⟩
        · have y1 : (y == 0) = false := by simp [hy0]
          have y2 : (y != 0) = true := by simp [hy0]
          have y3 : decide (y = 0) = false := by simp [hy0]
          have HY0 := Lib.hid hy0
          clear hy0
          go_wp2
          go_ret
          exact ⟨rfl, Br⟩
end Go.Proofs.YtahdjndpefclkaaDoor
