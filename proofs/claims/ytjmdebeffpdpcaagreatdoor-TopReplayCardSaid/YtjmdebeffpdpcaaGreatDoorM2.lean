/- Recover: the log at the beginning of bytes. -/
import Derived.Test.YtjmdebeffpdpcaaGreatDoorL5
import Derived.Deep.Cut
namespace Go.Proofs.YtjmdebeffpdpcaaGreatDoor
open Go.RowKit
open Go.Lib hiding intOf

theorem mk_add (a b : L8) : mk a ++ mk b = mk (a ++ b) := bl_inj (by rw [bl_append, bl_mk, bl_mk, bl_mk])

/-- The bytes of a log. -/
def encs (l : List Ent) : L8 := l.flatMap encL

theorem encs_len {l : List Ent} (h : ∀ (i : Nat) (e : Ent), l[i]? = some e → Ok e) : (encs l).length ≤ 160 * l.length := by
  induction l with
  | nil => simp [encs]
  | cons a t ih =>
    have ha := encL_len (h 0 a rfl)
    have ht := ih fun i e hi => h (i + 1) e (by simpa using hi)
    unfold encs at ht ⊢
    simp only [List.flatMap_cons, List.length_append, List.length_cons]
    omega

theorem encs_snoc {l : List Ent} {j : Nat} {x : Ent} (h : l[j]? = some x) : encs (l.take (j + 1)) = encs (l.take j) ++ encL x := by
  unfold encs
  rw [List.take_add_one, h]
  simp

set_option maxRecDepth 100000 in
set_option maxHeartbeats 4000000 in
theorem Bytes_any {g c : Nat} {A : Option Addr} {l : List Ent} {w : World} (h : LogA g A c l w) (hok : ∀ (i : Nat) (e : Ent), l[i]? = some e → Ok e) (hl : l.length ≤ 400) (he : Env w) :
    Calls Tryz.prog 6 #[.pointer (some ⟨g, 0, none⟩)] w fun y w' => y = .returned (.string (mk (encs l))) ∧ Below w.heap.size w w' := by
  have HE := Lib.hid he
  have HL := Lib.hid h
  have HOk := Lib.hid hok
  have cg := h.cell
  clear h hok he
  go_enter Tryz.func6, Tryz.ntmps6
  go_wp2
  go_loopw [3, 5, 6, 7, 13] (fun s _ _ _ i wr => ∃ j : Nat, j ≤ l.length ∧ i = .int .i64 (j : Int) ∧ s = .string (mk (encs (l.take j))) ∧ Below w.heap.size w wr) (fun _ _ _ _ i _ => l.length - (intOf i).toNat)
  case atStart => exact ⟨0, by omega, rfl, rfl, Below.refl _ _⟩
  case round =>
    obtain ⟨j, hj, rfl, rfl, hbr⟩ := hrel
    by_cases hlt : j < l.length
    · obtain ⟨x, hx⟩ : ∃ x, l[j]? = some x := ⟨l[j], List.getElem?_eq_getElem hlt⟩
      have ho := HOk.out j x hx
      obtain ⟨b, rfl, hgb, hbl, q0, q1, q2, q3⟩ := (HL.out.below hbr).ent hx
      have HEn := Lib.hid (fun W hW => Encode_ok x W ho hW)
      have hsn := encs_snoc hx
      have hsz := encs_len (l := l.take j) (fun i e hi => HOk.out i e (by rw [List.getElem?_take] at hi; split at hi <;> simp_all))
      rw [List.length_take] at hsz
      have hez := (encL_len ho).2
      obtain ⟨P, hP⟩ : ∃ P, encs (l.take j) = P := ⟨_, rfl⟩
      obtain ⟨E, hE⟩ : ∃ E, encL x = E := ⟨_, rfl⟩
      rw [hP] at hsn hsz ⊢
      rw [hE] at HEn hsn hez
      have hadd := mk_add P E
      have hs1 : (mk P).size ≤ 64000 := by rw [size_mk]; omega
      have hs2 : (mk E).size ≤ 160 := by rw [size_mk]; omega
      have HS := Lib.hid hsn
      obtain ⟨xn, xt, xk, xx⟩ := x
      unfold valE at HEn
      simp only at HEn q0 q1 q2 q3
      have hba : ∀ v, Below w.heap.size w (wr.alloc (.cells v 48)) := fun v => hbr.alloc hbr.size _
      have HBa := Lib.hid hba
      have hj0 : (0 : Int) ≤ (j : Int) := by omega
      have hjL : (j : Int) < (l.length : Int) := by omega
      clear hx ho hP hE hsn hsz hez hba
      go_wp2_with fail
      refine (HEn.out _ (HE.out.below (HBa.out _))).mono ?_
      rintro e w2 ⟨rfl, hb2⟩
      have B2 := bstep (HBa.out _) hb2
      go_wp2

      go_roundw
      case rel => exact ⟨j + 1, by omega, by go_num, by rw [HS.out], B2⟩
      case measure => simp [intOf]; omega
    · obtain rfl : l.length = j := by omega
      go_wp2
      go_ret
      exact ⟨by first | rfl | (rw [List.take_length]; rfl), hbr⟩
end Go.Proofs.YtjmdebeffpdpcaaGreatDoor

namespace Go.Proofs.YtjmdebeffpdpcaaGreatDoor
open Go.RowKit
open Go.Lib hiding intOf

/-- Behind a log come no bytes of its next entry. -/
def Stop (l : List Ent) (r : L8) : Prop := ∀ e r', Ok e → r = encL e ++ r' → ¬ (e.num = (l.length : Int) + 1 ∧ (0 < l.length → lastT l ≤ e.time))

def RecovP (s : ByteArray) (w : World) (y : Ending) (w' : World) : Prop :=
  ∃ l rest, y = .returned (.tuple #[.pointer (some ⟨w.heap.size, 0, none⟩), .int .i64 ((encs l).length : Int), .int .i64 0]) ∧ LogAt w.heap.size l w' ∧ LogOk l ∧ bl s = encs l ++ rest ∧ Stop l rest ∧ Below w.heap.size w w'

theorem LogOk.len {l : List Ent} (h : LogOk l) : l.length ≤ 500 := by
  by_cases h0 : l.length = 0
  · omega
  · obtain ⟨a, b⟩ := h.1 (l.length - 1) _ (List.getElem?_eq_getElem (by omega))
    have := b.n2
    omega

theorem full_encs (e : Ent) (r : L8) : encL e ++ r = full e (sumL (preL e)) r := by unfold encL; rw [full_append, List.nil_append]

theorem enc_inj {e e' : Ent} {r r' : L8} (h : Ok e) (h' : Ok e') (hf : encL e ++ r = encL e' ++ r') : e = e' ∧ r = r' := by
  rw [full_encs, full_encs] at hf
  obtain ⟨a, _, b⟩ := full_inj h h' hf
  exact ⟨a, b⟩

/-- What the last region of the loop leaves. -/
def AppP (g : Nat) (l : List Ent) (e : Ent) (w w' : World) : Prop := LogAt g (l ++ [e]) w' ∧ Below g w w'

set_option maxRecDepth 100000 in
set_option maxHeartbeats 8000000 in
theorem Recover_any (s : ByteArray) (w : World) (hs : s.size ≤ 131072) (he : Env w) : Calls Tryz.prog 7 #[.string s] w (RecovP s w) := by
  have HE := Lib.hid he
  have hbs : (bl s).length ≤ 131072 := by rw [size_bl]; exact hs
  have hbz := size_bl s
  have HDe := Lib.hid (fun (r : L8) (W : World) (hr : r.length ≤ 131072) (hW : Env W) => Decode_any (mk r) W (by rw [size_mk]; unfold maxLen; omega) hW)
  obtain ⟨i0, J0, J1, J2, J3⟩ := info_parts ent_info
  clear he
  go_enter Tryz.func7, Tryz.ntmps7
  go_wp2_with (go_at_call 16; refine (New_any _).mono ?_; rintro e w1 ⟨rfl, hL1, hb1⟩)
  have HL1 := Lib.hid hL1
  have HB1 := Lib.hid hb1
  clear hL1 hb1
  go_loopw [6, 7, 8, 9] (fun t6 _ _ _ wr => ∃ (l : List Ent) (rest : L8) (o : Nat), t6 = .int .i64 (o : Int) ∧ o = (encs l).length ∧ bl s = encs l ++ rest ∧ LogOk l ∧ LogAt w.heap.size l wr ∧ Below w.heap.size w wr) (fun t6 _ _ _ _ => s.size - (intOf t6).toNat)
  case atStart => exact ⟨[], bl s, 0, rfl, rfl, rfl, LogOk.nil, HL1.out, HB1.out⟩
  case round =>
    obtain ⟨l, rest, o, rfl, ho, hsr, hok, ⟨A, c, hla⟩, hbr⟩ := hrel
    have hll := hok.len
    have HLa := Lib.hid hla
    have HOk := Lib.hid hok
    have hlen : s.size = o + rest.length := by rw [← hbz, hsr, List.length_append, ho]
    have hdr := fun W => drop_str s o (by omega) (by unfold maxLen; omega) W
    have hdrop : (bl s).drop o = rest := by rw [hsr, ho]; simp
    rw [hdrop] at hdr
    have HSr := Lib.hid hsr
    have HO := Lib.hid ho
    have hos : o ≤ s.size := by omega
    have HLen := Lib.hid hlen
    have HDr := HDe.out rest wr (by omega) (HE.out.below hbr)
    have HD := Lib.hid HDr
    clear hla hok hdrop hsr ho hlen HDr
    go_wp2_with fail
    refine HD.out.mono ?_
    rintro y w2 hdec
    unfold DecAll DecR at hdec
    rw [bl_mk, size_mk] at hdec
    rcases hdec with ⟨e, r, hoe, hbe, rfl, hb2⟩ | ⟨cc, hcc, hno, rfl, hb2⟩
    case' inr =>
      have HNo := Lib.hid hno
      have d1 : (cc == 0) = false := by simp [hcc]
      have d2 : (cc != 0) = true := by simp [hcc]
      unfold valE zeroE
      clear hno hcc
      have hfin : ∀ v q, Below wr.heap.size wr ((w2.alloc v).drewN q) := fun v q => below_drewN (hb2.alloc hb2.size v) q
      have HFin := Lib.hid hfin
      clear hfin
      go_upto_region 6 with (fail)
      go_quiet (fail)
      go_wp2
      go_ret3
      exact ⟨l, rest, by rw [← HO.out]; rfl, ⟨A, c, HLa.out.below (HFin.out _ _)⟩, HOk.out, HSr.out, fun e r ho hr => absurd hr (HNo.out e r ho), bstep hbr (HFin.out _ _)⟩
    case' inl =>
      have hrl : rest.length = (encL e).length + r.length := by rw [hbe, List.length_append]
      have he1 := encL_len hoe
      obtain ⟨n, hn⟩ : ∃ n, (encL e).length = n := ⟨_, rfl⟩
      have hnn : (rest.length : Int) - (r.length : Int) = (n : Int) := by omega
      rw [hnn]
      have HN := Lib.hid hn
      have HBe := Lib.hid hbe
      have HOe := Lib.hid hoe
      rw [hn] at hrl he1
      obtain ⟨en, et, ek, ex⟩ := e
      unfold valE
      clear hn hbe hoe hnn
      go_upto_region 6 with (fail)
      have hbW : Below w2.heap.size w2 (w2.alloc (.cells #[.int .i64 en, .int .i64 et, .string ek, .string ex] 48)) := (Below.refl _ _).alloc (Nat.le_refl _) _
      have hnew := heap_alloc_new w2 (.cells #[.int .i64 en, .int .i64 et, .string ek, .string ex] 48)
      obtain ⟨W, hW⟩ : ∃ W, w2.alloc (.cells #[.int .i64 en, .int .i64 et, .string ek, .string ex] 48) = W := ⟨_, rfl⟩
      rw [hW] at hbW hnew ⊢
      have hB1 : Below wr.heap.size wr W := hb2.trans (hbW.mono hb2.size)
      have hL1 := HLa.out.below hB1
      have q0 := cell_of_row _ _ 0 _ _ _ hnew
      have q1 := cell_of_row _ _ 1 _ _ _ hnew
      have q2 := cell_of_row _ _ 2 _ _ _ hnew
      have q3 := cell_of_row _ _ 3 _ _ _ hnew
      have cg1 := hL1.cell
      have fg1 := hL1.frozen
      have hz1 : w2.heap.size < W.heap.size := (Array.getElem?_eq_some_iff.1 hnew).1
      have hlw : IntKind.i64.wrap ((l.length : Int) + 1) = (l.length : Int) + 1 := IntWalk.i64_in _ (by omega)
      have hB3 := bstep hbr hB1
      have hfin : ∀ q, Below w.heap.size w (W.drewN q) := fun q => below_drewN hB3 q
      have HFin := Lib.hid hfin
      have HB1 := Lib.hid hB1
      have HL1 := Lib.hid hL1
      have HNew := Lib.hid hnew
      have HWW := Lib.hid hW
      clear hW hbW hnew hB1 hL1 hB3 hfin
      by_cases hnum : en = (l.length : Int) + 1
      · have HOe1 := HOe
        subst hnum
        by_cases hz : l.length = 0
        · have hz0 : ¬ 0 < l.length := by omega
          have hzd : decide (0 < l.length) = false := by simp [hz]
          have HZ := Lib.hid hz
          clear hz
          go_quiet (fail)
          go_upto_region 8 with (fail)
          obtain ⟨V, hV⟩ : ∃ V, W.drewN nq = V := ⟨_, rfl⟩
          rw [hV]
          have p0 : V.cell? ⟨w2.heap.size, 0, none⟩ = some (.int .i64 ((l.length : Int) + 1)) := by rw [← hV]; exact q0
          have p1 : V.cell? ⟨w2.heap.size, 1, none⟩ = some (.int .i64 et) := by rw [← hV]; exact q1
          have p2 : V.cell? ⟨w2.heap.size, 2, none⟩ = some (.string ek) := by rw [← hV]; exact q2
          have p3 : V.cell? ⟨w2.heap.size, 3, none⟩ = some (.string ex) := by rw [← hV]; exact q3
          have hLV : LogA w.heap.size A c l V := by rw [← hV]; exact HL1.out
          have hV1 : Below wr.heap.size wr V := by rw [← hV]; exact below_drewN HB1.out _
          have hzV : w2.heap.size < V.heap.size := by rw [← hV]; exact hz1
          have cgV := hLV.cell
          have fgV := hLV.frozen
          have HLV := Lib.hid hLV
          have HV1 := Lib.hid hV1
          have hga : ∀ q o, ((V.drewN q).alloc o).heap[w.heap.size]? = some (.cells #[.slice A l.length c] 56 (0, 0)) := fun q o => ((World.grownBy_alloc (V.drewN q) o none).block w.heap.size hLV.lt (by simp)).trans hLV.1
          have ca : ∀ q o, ((V.drewN q).alloc o).cell? ⟨w.heap.size, 0, none⟩ = some (.slice A l.length c) := fun q o => cell_of_row _ w.heap.size 0 _ 56 (0, 0) (hga q o)
          have hlg1 := hLV.lt
          have hlx := (encL_len HOe.out).1
          rw [HN.out] at hlx
          have hlen := HLen.out
          have hon : o + n ≤ s.size := by omega
          have hwn : IntKind.i64.wrap ((o : Int) + (n : Int)) = (o : Int) + (n : Int) := IntWalk.i64_in _ (by omega)
          have henc : encs (l ++ [⟨(l.length : Int) + 1, et, ek, ex⟩]) = encs l ++ encL ⟨(l.length : Int) + 1, et, ek, ex⟩ := by simp [encs]
          have HEnc := Lib.hid henc
          have HO2 : Hid (o + n = (encs (l ++ [⟨(l.length : Int) + 1, et, ek, ex⟩])).length) := Lib.hid (by rw [HEnc.out, List.length_append, ← HO.out, HN.out])
          have HS2 : Hid (bl s = encs (l ++ [⟨(l.length : Int) + 1, et, ek, ex⟩]) ++ r) := Lib.hid (by rw [HEnc.out, List.append_assoc, ← HBe.out]; exact HSr.out)
          have HK2 : Hid (LogOk (l ++ [⟨(l.length : Int) + 1, et, ek, ex⟩])) := Lib.hid (HOk.out.snoc rfl HOe.out (fun h => absurd h (by have := HZ.out; omega)))
          clear hV q0 q1 q2 q3 cg1 fg1 hz1 hga hLV hV1 henc hlen
          go_wp2_with fail
          go_region_law (refine step_append_row _ #[.int .i64 ((l.length : Int) + 1), .int .i64 et, .string ek, .string ex] V.heap.size rfl (.tmp 67) (.tmp 69) 22 rfl (w.heap.size + 1) 48 i0 _ 4 48 Tryz.underlying22 J0 J1 J2 J3 rfl (by decide) (.slice A l.length c) l.length (l.flatMap rowE) rfl (HLV.out.2.alloc _) rfl (by simp [Value.oneCell']) (by exact heap_alloc_new V _) rfl (by omega) (by omega) (by simp; omega) ?_; intro g3 cap3 w3 hown3 hg3 hat3 hlt3; have hb3 : w3.heap[w.heap.size]? = some (.cells #[.slice A l.length c] 56 (0, 0)) := (hg3.block w.heap.size (by exact Nat.lt_of_lt_of_le hlg1 (World.grownBy_alloc V _ none).size) (fun e => by have := (HLV.out.2.lt w.heap.size e.symm).1; omega)).trans (((World.grownBy_alloc V _ none).block w.heap.size hlg1 (by simp)).trans HLV.out.1); have d0 := cell_of_row w3 w.heap.size 0 _ 56 (0, 0) hb3; have e0 := frozen_of_row w3 w.heap.size 0 _ 56 hb3)
          all_goals go_wp2
          all_goals go_roundw
          all_goals first
            | (simp [intOf]; omega)
            | (have hgr : V.grownBy w3 (Value.slice A l.length c).ownBlock := grown_trans (grown_trans (grown_drewN ⟨rfl, rfl, rfl, Nat.le_refl _, fun _ _ _ => rfl⟩ _) (World.grownBy_alloc _ _ _)) hg3
               have hst := LogA.stored (e := ⟨(l.length : Int) + 1, et, ek, ex⟩) HLa.out HV1.out (by exact hown3) hgr (by exact hat3.imp id (fun e => by rw [e]; have := HV1.out.size; simp; omega)) 0
               obtain ⟨A', c', _, f1, f2, _, _⟩ := hst
               exact ⟨l ++ [⟨(l.length : Int) + 1, et, ek, ex⟩], r, o + n, by first | rfl | go_num | (push_cast; rfl), HO2.out, HS2.out, HK2.out, ⟨A', c', f1⟩, hbr.trans f2⟩)
        · obtain ⟨le, hle, hlt⟩ := last_some (l := l) (by omega)
          obtain ⟨m, hm⟩ : ∃ m, l.length - 1 = m := ⟨_, rfl⟩
          rw [hm] at hle
          have hz0 : 0 < l.length := by omega
          have hji : (l.length : Int) - 1 = (m : Int) := by omega
          have hiw : IntKind.i64.wrap (m : Int) = (m : Int) := IntWalk.i64_in _ (by omega)
          have hm0 : (0 : Int) ≤ (m : Int) := by omega
          have hml' : (m : Int) < (l.length : Int) := by omega
          have hml : m < l.length := by omega
          obtain ⟨b, hAb, hgb, hbl, _, q5, _, _⟩ := HL1.out.ent hle
          subst hAb
          obtain ⟨lt, hltt⟩ : ∃ lt, le.time = lt := ⟨_, rfl⟩
          rw [hltt] at q5 hlt
          have HLt := Lib.hid hlt
          clear hle hltt hlt hm hz
          by_cases ht : et < lt
          · have dl : decide (et < lt) = true := by simp [ht]
            have HT := Lib.hid ht
            have HZ0 := Lib.hid hz0
            clear ht
            go_quiet (fail)
            go_wp2
            go_ret3
            exact ⟨l, rest, by rw [← HO.out]; rfl, ⟨_, c, HL1.out⟩, HOk.out, HSr.out, fun e' r' ho' hr' => by
              obtain ⟨rfl, _⟩ := enc_inj ho' HOe.out (hr'.symm.trans HBe.out)
              exact fun x => by have := x.2 HZ0.out; rw [HLt.out] at this; have := HT.out; simp only at *; omega, HFin.out _⟩
          · have dl : decide (et < lt) = false := by simp; omega
            have HT := Lib.hid ht
            clear ht
            go_quiet (fail)
            go_upto_region 8 with (fail)
            obtain ⟨V, hV⟩ : ∃ V, W.drewN nq = V := ⟨_, rfl⟩
            rw [hV]
            have p0 : V.cell? ⟨w2.heap.size, 0, none⟩ = some (.int .i64 ((l.length : Int) + 1)) := by rw [← hV]; exact q0
            have p1 : V.cell? ⟨w2.heap.size, 1, none⟩ = some (.int .i64 et) := by rw [← hV]; exact q1
            have p2 : V.cell? ⟨w2.heap.size, 2, none⟩ = some (.string ek) := by rw [← hV]; exact q2
            have p3 : V.cell? ⟨w2.heap.size, 3, none⟩ = some (.string ex) := by rw [← hV]; exact q3
            have hLV : LogA w.heap.size (some ⟨b, 0, none⟩) c l V := by rw [← hV]; exact HL1.out
            have hV1 : Below wr.heap.size wr V := by rw [← hV]; exact below_drewN HB1.out _
            have hzV : w2.heap.size < V.heap.size := by rw [← hV]; exact hz1
            have cgV := hLV.cell
            have fgV := hLV.frozen
            have HLV := Lib.hid hLV
            have HV1 := Lib.hid hV1
            have hga : ∀ q o, ((V.drewN q).alloc o).heap[w.heap.size]? = some (.cells #[.slice (some ⟨b, 0, none⟩) l.length c] 56 (0, 0)) := fun q o => ((World.grownBy_alloc (V.drewN q) o none).block w.heap.size hLV.lt (by simp)).trans hLV.1
            have ca : ∀ q o, ((V.drewN q).alloc o).cell? ⟨w.heap.size, 0, none⟩ = some (.slice (some ⟨b, 0, none⟩) l.length c) := fun q o => cell_of_row _ w.heap.size 0 _ 56 (0, 0) (hga q o)
            have hlg1 := hLV.lt
            have hlx := (encL_len HOe.out).1
            rw [HN.out] at hlx
            have hlen := HLen.out
            have hon : o + n ≤ s.size := by omega
            have hwn : IntKind.i64.wrap ((o : Int) + (n : Int)) = (o : Int) + (n : Int) := IntWalk.i64_in _ (by omega)
            have henc : encs (l ++ [⟨(l.length : Int) + 1, et, ek, ex⟩]) = encs l ++ encL ⟨(l.length : Int) + 1, et, ek, ex⟩ := by simp [encs]
            have HEnc := Lib.hid henc
            have HO2 : Hid (o + n = (encs (l ++ [⟨(l.length : Int) + 1, et, ek, ex⟩])).length) := Lib.hid (by rw [HEnc.out, List.length_append, ← HO.out, HN.out])
            have HS2 : Hid (bl s = encs (l ++ [⟨(l.length : Int) + 1, et, ek, ex⟩]) ++ r) := Lib.hid (by rw [HEnc.out, List.append_assoc, ← HBe.out]; exact HSr.out)
            have HK2 : Hid (LogOk (l ++ [⟨(l.length : Int) + 1, et, ek, ex⟩])) := Lib.hid (HOk.out.snoc rfl HOe.out (fun _ => by rw [HLt.out]; have := HT.out; show lt ≤ et; omega))
            clear hV q0 q1 q2 q3 cg1 fg1 hz1 hga hLV hV1 henc hlen
            go_wp2_with fail
            go_region_law (refine step_append_row _ #[.int .i64 ((l.length : Int) + 1), .int .i64 et, .string ek, .string ex] V.heap.size rfl (.tmp 67) (.tmp 69) 22 rfl (w.heap.size + 1) 48 i0 _ 4 48 Tryz.underlying22 J0 J1 J2 J3 rfl (by decide) (.slice (some ⟨b, 0, none⟩) l.length c) l.length (l.flatMap rowE) rfl (HLV.out.2.alloc _) rfl (by simp [Value.oneCell']) (by exact heap_alloc_new V _) rfl (by omega) (by omega) (by simp; omega) ?_; intro g3 cap3 w3 hown3 hg3 hat3 hlt3; have hb3 : w3.heap[w.heap.size]? = some (.cells #[.slice (some ⟨b, 0, none⟩) l.length c] 56 (0, 0)) := (hg3.block w.heap.size (by exact Nat.lt_of_lt_of_le hlg1 (World.grownBy_alloc V _ none).size) (fun e => by have := (HLV.out.2.lt w.heap.size e.symm).1; omega)).trans (((World.grownBy_alloc V _ none).block w.heap.size hlg1 (by simp)).trans HLV.out.1); have d0 := cell_of_row w3 w.heap.size 0 _ 56 (0, 0) hb3; have e0 := frozen_of_row w3 w.heap.size 0 _ 56 hb3)
            all_goals go_wp2
            all_goals go_roundw
            all_goals first
              | (simp [intOf]; omega)
              | (have hgr : V.grownBy w3 (Value.slice (some ⟨b, 0, none⟩) l.length c).ownBlock := grown_trans (grown_trans (grown_drewN ⟨rfl, rfl, rfl, Nat.le_refl _, fun _ _ _ => rfl⟩ _) (World.grownBy_alloc _ _ _)) hg3
                 have hst := LogA.stored (e := ⟨(l.length : Int) + 1, et, ek, ex⟩) HLa.out HV1.out (by exact hown3) hgr (by exact hat3.imp id (fun e => by rw [e]; have := HV1.out.size; simp; omega)) 0
                 obtain ⟨A', c', _, f1, f2, _, _⟩ := hst
                 exact ⟨l ++ [⟨(l.length : Int) + 1, et, ek, ex⟩], r, o + n, by first | rfl | go_num | (push_cast; rfl), HO2.out, HS2.out, HK2.out, ⟨A', c', f1⟩, hbr.trans f2⟩)
      · have e1 : decide (en = (l.length : Int) + 1) = false := by simp [hnum]
        have e2 : (en == (l.length : Int) + 1) = false := by simp [hnum]
        have e3 : (en != (l.length : Int) + 1) = true := by simp [hnum]
        have HNum := Lib.hid hnum
        clear hnum
        go_quiet (fail)
        go_wp2
        go_ret3
        exact ⟨l, rest, by rw [← HO.out]; rfl, ⟨A, c, HL1.out⟩, HOk.out, HSr.out, fun e' r' ho' hr' => by
          obtain ⟨rfl, _⟩ := enc_inj ho' HOe.out (hr'.symm.trans HBe.out)
          exact fun x => HNum.out x.1, HFin.out _⟩
end Go.Proofs.YtjmdebeffpdpcaaGreatDoor
