/- Entries are compared; the walk of RecordBack. -/
import Derived.Test.YtaebebpldkciiaaGreatDoorQRA6
import Derived.Laws.StructEq
import Derived.Test.YtaebebpldkciiaaGreatDoorQRA2
import Derived.Test.YtaebebpldkciiaaGreatDoorQG12
import Derived.Lib.MinMax
import Derived.Deep.Cut
import Derived.Deep.RegionHeld3
namespace Go.Proofs.YtaebebpldkciiaaGreatDoor
open Go.RowKit
open Go.Lib hiding intOf
def DecAll (s : ByteArray) (w : World) (x : Ending) (w' : World) : Prop :=
 (∃ e r, Ok e ∧ bl s = encL e ++ r ∧ DecR e ((s.size : Int) - (r.length : Int)) 0 w x w') ∨
 (∃ c, c ≠ 0 ∧ (∀ e r, Ok e → bl s ≠ encL e ++ r) ∧ DecR zeroE 0 c w x w')
theorem Decode_any (s : ByteArray) (w : World) (hs : s.size ≤ maxLen) (he : Env w) : Calls Tryz.prog 59 #[.string s] w (DecAll s w) := by
 by_cases h : ∃ e m r, Forms (bl s) e m r
 ·obtain ⟨e, m, r, hf⟩ := h
  refine (Decode_yes s e m r w hf hs he).mono fun x w' hx => ?_
  by_cases hm : m = sumL (preL e)
  ·rw [if_pos hm] at hx
   subst hm
   exact .inl ⟨e, r, hf.1, forms_of_sum hf, hx⟩
  ·rw [if_neg hm] at hx
   refine .inr ⟨13, by decide, fun e' r' ho h' => hm ?_, hx⟩
   have h2 := forms_enc ho r'
   rw [← h'] at h2
   obtain ⟨a, b, _⟩ := forms_uniq hf h2
   rw [b, a]
 ·refine (Decode_no s w (fun e m r hf => h ⟨e, m, r, hf⟩) hs he).mono fun x w' hx => .inr ⟨5, by decide, fun e r ho h' => h ⟨e, sumL (preL e), r, h' ▸ forms_enc ho r⟩, hx⟩
def E0 : Ent := ⟨1, 5, ⟨#[115, 101, 116]⟩, ⟨#[97, 32, 98]⟩⟩
theorem E0_ok : Ok E0 := ⟨by decide, by decide, by decide, by decide, by decide, by decide, by decide, by decide⟩
end Go.Proofs.YtaebebpldkciiaaGreatDoor
namespace Go.Proofs.YtaebebpldkciiaaGreatDoor
open Go.RowKit
open Go.Lib hiding intOf
def eqE (x y : Ent) : Bool := x.num == y.num && (x.time == y.time && (x.kind.toList == y.kind.toList && x.text.toList == y.text.toList))
theorem eqE_refl (x : Ent) : eqE x x = true := by simp [eqE]
end Go.Proofs.YtaebebpldkciiaaGreatDoor
namespace Go.Proofs.YtaebebpldkciiaaGreatDoor
open Go.RowKit
open Go.Lib hiding intOf
theorem slice34 {A : Option Addr} {c : Nat} (n q : Nat) (hq : q ≤ n) (hn : n ≤ c) (hnil : A = none → n = 0 ∧ c = 0) (W : World) : (Instr.slice 75 (.slice A n c) none (some (.int .i64 (q : Int))) none).run Tryz.prog W = .ok (.slice A q c) W := by
 have h0 : (0 : Int) ≤ (q : Int) := by omega
 have h1 : (q : Int) ≤ (c : Int) := by omega
 cases A with
 | none =>
  obtain ⟨rfl, rfl⟩ := hnil rfl
  obtain rfl : q = 0 := by omega
  go_simp
 | some a => go_simp
theorem Sl.four {w : World} {B n : Nat} {A : Option Addr} {f : Nat → Ent} (h : Sl w B 4 A n (fun i => rowE (f i))) (i : Nat) (hi : i < n) : ∃ b off, A = some ⟨b, off, none⟩ ∧ b < B ∧
  w.cell? ⟨b, off + i * 4, none⟩ = some (.int .i64 (f i).num) ∧ w.cell? ⟨b, off + i * 4 + 1, none⟩ = some (.int .i64 (f i).time) ∧ w.cell? ⟨b, off + i * 4 + 2, none⟩ = some (.string (f i).kind) ∧ w.cell? ⟨b, off + i * 4 + 3, none⟩ = some (.string (f i).text) := by
 obtain ⟨b, off, e, hb, hr⟩ := h (by omega)
 have h0 := hr i hi 0 _ rfl
 rw [Nat.add_zero] at h0
 exact ⟨b, off, e, hb, h0, hr i hi 1 _ rfl, hr i hi 2 _ rfl, hr i hi 3 _ rfl⟩
end Go.Proofs.YtaebebpldkciiaaGreatDoor
namespace Go.Proofs.YtaebebpldkciiaaGreatDoor
open Go.RowKit
open Go.Lib hiding intOf
theorem mk_add (a b : L8) : mk a ++ mk b = mk (a ++ b) := bl_inj (by rw [bl_append, bl_mk, bl_mk, bl_mk])
def encs (l : List Ent) : L8 := l.flatMap encL
theorem encs_len {l : List Ent} (h : ∀ (i : Nat) (e : Ent), l[i]? = some e → Ok e) : (encs l).length ≤ 160 * l.length := by
 induction l with
 | nil => simp [encs]
 | cons a t ih =>
  have ha := encL_len (h 0 a rfl)
  have ht := ih fun i e hi => h (i + 1) e (by simpa using hi)
  unfold encs at ht ⊢
  simp only [List.flatMap_cons, List.length_append, List.length_cons]
  omega
theorem encs_snoc {l : List Ent} {j : Nat} {x : Ent} (h : l[j]? = some x) : encs (l.take (j + 1)) = encs (l.take j) ++ encL x := by
 unfold encs
 rw [List.take_add_one, h]
 simp
set_option maxRecDepth 100000 in
set_option maxHeartbeats 4000000 in
theorem Bytes_any {g c : Nat} {A : Option Addr} {l : List Ent} {w : World} (h : LogA g A c l w) (hok : ∀ (i : Nat) (e : Ent), l[i]? = some e → Ok e) (hl : l.length ≤ 400) (he : Env w) :
  Calls Tryz.prog 31 #[.pointer (some ⟨g, 0, none⟩)] w fun y w' => y = .returned (.string (mk (encs l))) ∧ Below w.heap.size w w' := by
 have HE := Lib.hid he
 have HL := Lib.hid h
 have HOk := Lib.hid hok
 have cg := h.cell
 clear h hok he
 go_enter Tryz.func31, Tryz.ntmps31
 go_wp2
 go_loopw [3, 5, 6, 7, 13] (fun s _ _ _ i wr => ∃ j : Nat, j ≤ l.length ∧ i = .int .i64 (j : Int) ∧ s = .string (mk (encs (l.take j))) ∧ Below w.heap.size w wr) (fun _ _ _ _ i _ => l.length - (intOf i).toNat)
 case atStart => exact ⟨0, by omega, rfl, rfl, Below.refl _ _⟩
 case round =>
  obtain ⟨j, hj, rfl, rfl, hbr⟩ := hrel
  by_cases hlt : j < l.length
  ·obtain ⟨x, hx⟩ : ∃ x, l[j]? = some x := ⟨l[j], List.getElem?_eq_getElem hlt⟩
   have ho := HOk.out j x hx
   obtain ⟨b, rfl, hgb, hbl, q0, q1, q2, q3⟩ := (HL.out.below hbr).ent hx
   have HEn := Lib.hid (fun W hW => Encode_ok x W ho hW)
   have hsn := encs_snoc hx
   have hsz := encs_len (l := l.take j) (fun i e hi => HOk.out i e (by rw [List.getElem?_take] at hi; split at hi <;> simp_all))
   rw [List.length_take] at hsz
   have hez := (encL_len ho).2
   obtain ⟨P, hP⟩ : ∃ P, encs (l.take j) = P := ⟨_, rfl⟩
   obtain ⟨E, hE⟩ : ∃ E, encL x = E := ⟨_, rfl⟩
   rw [hP] at hsn hsz ⊢
   rw [hE] at HEn hsn hez
   have hadd := mk_add P E
   have hs1 : (mk P).size ≤ 64000 := by rw [size_mk]; omega
   have hs2 : (mk E).size ≤ 160 := by rw [size_mk]; omega
   have HS := Lib.hid hsn
   obtain ⟨xn, xt, xk, xx⟩ := x
   unfold valE at HEn
   simp only at HEn q0 q1 q2 q3
   have hba : ∀ v, Below w.heap.size w (wr.alloc (.cells v 78)) := fun v => hbr.alloc hbr.size _
   have HBa := Lib.hid hba
   have hj0 : (0 : Int) ≤ (j : Int) := by omega
   have hjL : (j : Int) < (l.length : Int) := by omega
   clear hx ho hP hE hsn hsz hez hba
   go_wp2_with fail
   refine (HEn.out _ (HE.out.below (HBa.out _))).mono ?_
   rintro e w2 ⟨rfl, hb2⟩
   have B2 := bstep (HBa.out _) hb2
   go_wp2
   go_roundw
   case rel => exact ⟨j + 1, by omega, by go_num, by rw [HS.out], B2⟩
   case measure => simp [intOf]; omega
  ·obtain rfl : l.length = j := by omega
   go_wp2
   go_ret
   exact ⟨by first | rfl | (rw [List.take_length]; rfl), hbr⟩
end Go.Proofs.YtaebebpldkciiaaGreatDoor
namespace Go.Proofs.YtaebebpldkciiaaGreatDoor
open Go.RowKit
open Go.Lib hiding intOf
def Stop (l : List Ent) (r : L8) : Prop := ∀ e r', Ok e → r = encL e ++ r' → ¬ (e.num = (l.length : Int) + 1 ∧ (0 < l.length → lastT l ≤ e.time))
def RecovP (s : ByteArray) (w : World) (y : Ending) (w' : World) : Prop :=
 ∃ l rest, y = .returned (.tuple #[.pointer (some ⟨w.heap.size, 0, none⟩), .int .i64 ((encs l).length : Int), .int .i64 0]) ∧ LogAt w.heap.size l w' ∧ LogOk l ∧ bl s = encs l ++ rest ∧ Stop l rest ∧ Below w.heap.size w w'
theorem LogOk.len {l : List Ent} (h : LogOk l) : l.length ≤ 500 := by
 by_cases h0 : l.length = 0
 ·omega
 ·obtain ⟨a, b⟩ := h.1 (l.length - 1) _ (List.getElem?_eq_getElem (by omega))
  have := b.n2
  omega
theorem full_encs (e : Ent) (r : L8) : encL e ++ r = full e (sumL (preL e)) r := by unfold encL; rw [full_append, List.nil_append]
theorem enc_inj {e e' : Ent} {r r' : L8} (h : Ok e) (h' : Ok e') (hf : encL e ++ r = encL e' ++ r') : e = e' ∧ r = r' := by
 rw [full_encs, full_encs] at hf
 obtain ⟨a, _, b⟩ := full_inj h h' hf
 exact ⟨a, b⟩
set_option maxRecDepth 100000 in
set_option maxHeartbeats 8000000 in
theorem Recover_any (s : ByteArray) (w : World) (hs : s.size ≤ 131072) (he : Env w) : Calls Tryz.prog 32 #[.string s] w (RecovP s w) := by
 have HE := Lib.hid he
 have hbs : (bl s).length ≤ 131072 := by rw [size_bl]; exact hs
 have hbz := size_bl s
 have HDe := Lib.hid (fun (r : L8) (W : World) (hr : r.length ≤ 131072) (hW : Env W) => Decode_any (mk r) W (by rw [size_mk]; unfold maxLen; omega) hW)
 obtain ⟨i0, J0, J1, J2, J3⟩ := info_parts ent_info
 clear he
 go_enter Tryz.func32, Tryz.ntmps32
 go_wp2_with (go_at_call 28; refine (New_any _).mono ?_; rintro e w1 ⟨rfl, hL1, hb1⟩)
 have HL1 := Lib.hid hL1
 have HB1 := Lib.hid hb1
 clear hL1 hb1
 go_loopw [6, 7, 8, 9] (fun t6 _ _ _ wr => ∃ (l : List Ent) (rest : L8) (o : Nat), t6 = .int .i64 (o : Int) ∧ o = (encs l).length ∧ bl s = encs l ++ rest ∧ LogOk l ∧ LogAt w.heap.size l wr ∧ Below w.heap.size w wr) (fun t6 _ _ _ _ => s.size - (intOf t6).toNat)
 case atStart => exact ⟨[], bl s, 0, rfl, rfl, rfl, LogOk.nil, HL1.out, HB1.out⟩
 case round =>
  obtain ⟨l, rest, o, rfl, ho, hsr, hok, ⟨A, c, hla⟩, hbr⟩ := hrel
  have hll := hok.len
  have HLa := Lib.hid hla
  have HOk := Lib.hid hok
  have hlen : s.size = o + rest.length := by rw [← hbz, hsr, List.length_append, ho]
  have hdr := fun W => drop_str s o (by omega) (by unfold maxLen; omega) W
  have hdrop : (bl s).drop o = rest := by rw [hsr, ho]; simp
  rw [hdrop] at hdr
  have HSr := Lib.hid hsr
  have HO := Lib.hid ho
  have hos : o ≤ s.size := by omega
  have HLen := Lib.hid hlen
  have HDr := HDe.out rest wr (by omega) (HE.out.below hbr)
  have HD := Lib.hid HDr
  clear hla hok hdrop hsr ho hlen HDr
  go_wp2_with fail
  refine HD.out.mono ?_
  rintro y w2 hdec
  unfold DecAll DecR at hdec
  rw [bl_mk, size_mk] at hdec
  rcases hdec with ⟨e, r, hoe, hbe, rfl, hb2⟩ | ⟨cc, hcc, hno, rfl, hb2⟩
  case' inr =>
   have HNo := Lib.hid hno
   have d1 : (cc == 0) = false := by simp [hcc]
   have d2 : (cc != 0) = true := by simp [hcc]
   unfold valE zeroE
   clear hno hcc
   have hfin : ∀ v q, Below wr.heap.size wr ((w2.alloc v).drewN q) := fun v q => below_drewN (hb2.alloc hb2.size v) q
   have HFin := Lib.hid hfin
   clear hfin
   go_upto_region 6 with (fail)
   go_quiet (fail)
   go_wp2
   go_ret3
   exact ⟨l, rest, by rw [← HO.out]; rfl, ⟨A, c, HLa.out.below (HFin.out _ _)⟩, HOk.out, HSr.out, fun e r ho hr => absurd hr (HNo.out e r ho), bstep hbr (HFin.out _ _)⟩
  case' inl =>
   have hrl : rest.length = (encL e).length + r.length := by rw [hbe, List.length_append]
   have he1 := encL_len hoe
   obtain ⟨n, hn⟩ : ∃ n, (encL e).length = n := ⟨_, rfl⟩
   have hnn : (rest.length : Int) - (r.length : Int) = (n : Int) := by omega
   rw [hnn]
   have HN := Lib.hid hn
   have HBe := Lib.hid hbe
   have HOe := Lib.hid hoe
   rw [hn] at hrl he1
   obtain ⟨en, et, ek, ex⟩ := e
   unfold valE
   clear hn hbe hoe hnn
   go_upto_region 6 with (fail)
   have hbW : Below w2.heap.size w2 (w2.alloc (.cells #[.int .i64 en, .int .i64 et, .string ek, .string ex] 78)) := (Below.refl _ _).alloc (Nat.le_refl _) _
   have hnew := heap_alloc_new w2 (.cells #[.int .i64 en, .int .i64 et, .string ek, .string ex] 78)
   obtain ⟨W, hW⟩ : ∃ W, w2.alloc (.cells #[.int .i64 en, .int .i64 et, .string ek, .string ex] 78) = W := ⟨_, rfl⟩
   rw [hW] at hbW hnew ⊢
   have hB1 : Below wr.heap.size wr W := hb2.trans (hbW.mono hb2.size)
   have hL1 := HLa.out.below hB1
   have q0 := cell_of_row _ _ 0 _ _ _ hnew
   have q1 := cell_of_row _ _ 1 _ _ _ hnew
   have q2 := cell_of_row _ _ 2 _ _ _ hnew
   have q3 := cell_of_row _ _ 3 _ _ _ hnew
   have cg1 := hL1.cell
   have fg1 := hL1.frozen
   have hz1 : w2.heap.size < W.heap.size := (Array.getElem?_eq_some_iff.1 hnew).1
   have hlw : IntKind.i64.wrap ((l.length : Int) + 1) = (l.length : Int) + 1 := IntWalk.i64_in _ (by omega)
   have hB3 := bstep hbr hB1
   have hfin : ∀ q, Below w.heap.size w (W.drewN q) := fun q => below_drewN hB3 q
   have HFin := Lib.hid hfin
   have HB1 := Lib.hid hB1
   have HL1 := Lib.hid hL1
   have HNew := Lib.hid hnew
   have HWW := Lib.hid hW
   clear hW hbW hnew hB1 hL1 hB3 hfin
   by_cases hnum : en = (l.length : Int) + 1
   ·have HOe1 := HOe
    subst hnum
    by_cases hz : l.length = 0
    ·have hz0 : ¬ 0 < l.length := by omega
     have hzd : decide (0 < l.length) = false := by simp [hz]
     have HZ := Lib.hid hz
     clear hz
     go_quiet (fail)
     go_upto_region 8 with (fail)
     obtain ⟨V, hV⟩ : ∃ V, W.drewN nq = V := ⟨_, rfl⟩
     rw [hV]
     have p0 : V.cell? ⟨w2.heap.size, 0, none⟩ = some (.int .i64 ((l.length : Int) + 1)) := by rw [← hV]; exact q0
     have p1 : V.cell? ⟨w2.heap.size, 1, none⟩ = some (.int .i64 et) := by rw [← hV]; exact q1
     have p2 : V.cell? ⟨w2.heap.size, 2, none⟩ = some (.string ek) := by rw [← hV]; exact q2
     have p3 : V.cell? ⟨w2.heap.size, 3, none⟩ = some (.string ex) := by rw [← hV]; exact q3
     have hLV : LogA w.heap.size A c l V := by rw [← hV]; exact HL1.out
     have hV1 : Below wr.heap.size wr V := by rw [← hV]; exact below_drewN HB1.out _
     have hzV : w2.heap.size < V.heap.size := by rw [← hV]; exact hz1
     have cgV := hLV.cell
     have fgV := hLV.frozen
     have HLV := Lib.hid hLV
     have HV1 := Lib.hid hV1
     have hga : ∀ q o, ((V.drewN q).alloc o).heap[w.heap.size]? = some (.cells #[.slice A l.length c] 123 (0, 0)) := fun q o => ((World.grownBy_alloc (V.drewN q) o none).block w.heap.size hLV.lt (by simp)).trans hLV.1
     have ca : ∀ q o, ((V.drewN q).alloc o).cell? ⟨w.heap.size, 0, none⟩ = some (.slice A l.length c) := fun q o => cell_of_row _ w.heap.size 0 _ 123 (0, 0) (hga q o)
     have hlg1 := hLV.lt
     have hlx := (encL_len HOe.out).1
     rw [HN.out] at hlx
     have hlen := HLen.out
     have hon : o + n ≤ s.size := by omega
     have hwn : IntKind.i64.wrap ((o : Int) + (n : Int)) = (o : Int) + (n : Int) := IntWalk.i64_in _ (by omega)
     have henc : encs (l ++ [⟨(l.length : Int) + 1, et, ek, ex⟩]) = encs l ++ encL ⟨(l.length : Int) + 1, et, ek, ex⟩ := by simp [encs]
     have HEnc := Lib.hid henc
     have HO2 : Hid (o + n = (encs (l ++ [⟨(l.length : Int) + 1, et, ek, ex⟩])).length) := Lib.hid (by rw [HEnc.out, List.length_append, ← HO.out, HN.out])
     have HS2 : Hid (bl s = encs (l ++ [⟨(l.length : Int) + 1, et, ek, ex⟩]) ++ r) := Lib.hid (by rw [HEnc.out, List.append_assoc, ← HBe.out]; exact HSr.out)
     have HK2 : Hid (LogOk (l ++ [⟨(l.length : Int) + 1, et, ek, ex⟩])) := Lib.hid (HOk.out.snoc rfl HOe.out (fun h => absurd h (by have := HZ.out; omega)))
     clear hV q0 q1 q2 q3 cg1 fg1 hz1 hga hLV hV1 henc hlen
     go_wp2_with fail
     go_region_law (refine step_append_row _ #[.int .i64 ((l.length : Int) + 1), .int .i64 et, .string ek, .string ex] V.heap.size rfl (.tmp 67) (.tmp 69) 75 rfl (w.heap.size + 1) 78 i0 _ 4 48 Tryz.underlying75 J0 J1 J2 J3 rfl (by decide) (.slice A l.length c) l.length (l.flatMap rowE) rfl (HLV.out.2.alloc _) rfl (by simp [Value.oneCell']) (by exact heap_alloc_new V _) rfl (by omega) (by omega) (by simp; omega) ?_; intro g3 cap3 w3 hown3 hg3 hat3 hlt3; have hb3 : w3.heap[w.heap.size]? = some (.cells #[.slice A l.length c] 123 (0, 0)) := (hg3.block w.heap.size (by exact Nat.lt_of_lt_of_le hlg1 (World.grownBy_alloc V _ none).size) (fun e => by have := (HLV.out.2.lt w.heap.size e.symm).1; omega)).trans (((World.grownBy_alloc V _ none).block w.heap.size hlg1 (by simp)).trans HLV.out.1); have d0 := cell_of_row w3 w.heap.size 0 _ 123 (0, 0) hb3; have e0 := frozen_of_row w3 w.heap.size 0 _ 123 hb3)
     all_goals go_wp2
     all_goals go_roundw
     all_goals first
      | (simp [intOf]; omega)
      | (have hgr : V.grownBy w3 (Value.slice A l.length c).ownBlock := grown_trans (grown_trans (grown_drewN ⟨rfl, rfl, rfl, Nat.le_refl _, fun _ _ _ => rfl⟩ _) (World.grownBy_alloc _ _ _)) hg3
         have hst := LogA.stored (e := ⟨(l.length : Int) + 1, et, ek, ex⟩) HLa.out HV1.out (by exact hown3) hgr (by exact hat3.imp id (fun e => by rw [e]; have := HV1.out.size; simp; omega)) 0
         obtain ⟨A', c', _, f1, f2, _, _⟩ := hst
         exact ⟨l ++ [⟨(l.length : Int) + 1, et, ek, ex⟩], r, o + n, by first | rfl | go_num | (push_cast; rfl), HO2.out, HS2.out, HK2.out, ⟨A', c', f1⟩, hbr.trans f2⟩)
    ·obtain ⟨le, hle, hlt⟩ := last_some (l := l) (by omega)
     obtain ⟨m, hm⟩ : ∃ m, l.length - 1 = m := ⟨_, rfl⟩
     rw [hm] at hle
     have hz0 : 0 < l.length := by omega
     have hji : (l.length : Int) - 1 = (m : Int) := by omega
     have hiw : IntKind.i64.wrap (m : Int) = (m : Int) := IntWalk.i64_in _ (by omega)
     have hm0 : (0 : Int) ≤ (m : Int) := by omega
     have hml' : (m : Int) < (l.length : Int) := by omega
     have hml : m < l.length := by omega
     obtain ⟨b, hAb, hgb, hbl, _, q5, _, _⟩ := HL1.out.ent hle
     subst hAb
     obtain ⟨lt, hltt⟩ : ∃ lt, le.time = lt := ⟨_, rfl⟩
     rw [hltt] at q5 hlt
     have HLt := Lib.hid hlt
     clear hle hltt hlt hm hz
     by_cases ht : et < lt
     ·have dl : decide (et < lt) = true := by simp [ht]
      have HT := Lib.hid ht
      have HZ0 := Lib.hid hz0
      clear ht
      go_quiet (fail)
      go_wp2
      go_ret3
      exact ⟨l, rest, by rw [← HO.out]; rfl, ⟨_, c, HL1.out⟩, HOk.out, HSr.out, fun e' r' ho' hr' => by
       obtain ⟨rfl, _⟩ := enc_inj ho' HOe.out (hr'.symm.trans HBe.out)
       exact fun x => by have := x.2 HZ0.out; rw [HLt.out] at this; have := HT.out; simp only at *; omega, HFin.out _⟩
     ·have dl : decide (et < lt) = false := by simp; omega
      have HT := Lib.hid ht
      clear ht
      go_quiet (fail)
      go_upto_region 8 with (fail)
      obtain ⟨V, hV⟩ : ∃ V, W.drewN nq = V := ⟨_, rfl⟩
      rw [hV]
      have p0 : V.cell? ⟨w2.heap.size, 0, none⟩ = some (.int .i64 ((l.length : Int) + 1)) := by rw [← hV]; exact q0
      have p1 : V.cell? ⟨w2.heap.size, 1, none⟩ = some (.int .i64 et) := by rw [← hV]; exact q1
      have p2 : V.cell? ⟨w2.heap.size, 2, none⟩ = some (.string ek) := by rw [← hV]; exact q2
      have p3 : V.cell? ⟨w2.heap.size, 3, none⟩ = some (.string ex) := by rw [← hV]; exact q3
      have hLV : LogA w.heap.size (some ⟨b, 0, none⟩) c l V := by rw [← hV]; exact HL1.out
      have hV1 : Below wr.heap.size wr V := by rw [← hV]; exact below_drewN HB1.out _
      have hzV : w2.heap.size < V.heap.size := by rw [← hV]; exact hz1
      have cgV := hLV.cell
      have fgV := hLV.frozen
      have HLV := Lib.hid hLV
      have HV1 := Lib.hid hV1
      have hga : ∀ q o, ((V.drewN q).alloc o).heap[w.heap.size]? = some (.cells #[.slice (some ⟨b, 0, none⟩) l.length c] 123 (0, 0)) := fun q o => ((World.grownBy_alloc (V.drewN q) o none).block w.heap.size hLV.lt (by simp)).trans hLV.1
      have ca : ∀ q o, ((V.drewN q).alloc o).cell? ⟨w.heap.size, 0, none⟩ = some (.slice (some ⟨b, 0, none⟩) l.length c) := fun q o => cell_of_row _ w.heap.size 0 _ 123 (0, 0) (hga q o)
      have hlg1 := hLV.lt
      have hlx := (encL_len HOe.out).1
      rw [HN.out] at hlx
      have hlen := HLen.out
      have hon : o + n ≤ s.size := by omega
      have hwn : IntKind.i64.wrap ((o : Int) + (n : Int)) = (o : Int) + (n : Int) := IntWalk.i64_in _ (by omega)
      have henc : encs (l ++ [⟨(l.length : Int) + 1, et, ek, ex⟩]) = encs l ++ encL ⟨(l.length : Int) + 1, et, ek, ex⟩ := by simp [encs]
      have HEnc := Lib.hid henc
      have HO2 : Hid (o + n = (encs (l ++ [⟨(l.length : Int) + 1, et, ek, ex⟩])).length) := Lib.hid (by rw [HEnc.out, List.length_append, ← HO.out, HN.out])
      have HS2 : Hid (bl s = encs (l ++ [⟨(l.length : Int) + 1, et, ek, ex⟩]) ++ r) := Lib.hid (by rw [HEnc.out, List.append_assoc, ← HBe.out]; exact HSr.out)
      have HK2 : Hid (LogOk (l ++ [⟨(l.length : Int) + 1, et, ek, ex⟩])) := Lib.hid (HOk.out.snoc rfl HOe.out (fun _ => by rw [HLt.out]; have := HT.out; show lt ≤ et; omega))
      clear hV q0 q1 q2 q3 cg1 fg1 hz1 hga hLV hV1 henc hlen
      go_wp2_with fail
      go_region_law (refine step_append_row _ #[.int .i64 ((l.length : Int) + 1), .int .i64 et, .string ek, .string ex] V.heap.size rfl (.tmp 67) (.tmp 69) 75 rfl (w.heap.size + 1) 78 i0 _ 4 48 Tryz.underlying75 J0 J1 J2 J3 rfl (by decide) (.slice (some ⟨b, 0, none⟩) l.length c) l.length (l.flatMap rowE) rfl (HLV.out.2.alloc _) rfl (by simp [Value.oneCell']) (by exact heap_alloc_new V _) rfl (by omega) (by omega) (by simp; omega) ?_; intro g3 cap3 w3 hown3 hg3 hat3 hlt3; have hb3 : w3.heap[w.heap.size]? = some (.cells #[.slice (some ⟨b, 0, none⟩) l.length c] 123 (0, 0)) := (hg3.block w.heap.size (by exact Nat.lt_of_lt_of_le hlg1 (World.grownBy_alloc V _ none).size) (fun e => by have := (HLV.out.2.lt w.heap.size e.symm).1; omega)).trans (((World.grownBy_alloc V _ none).block w.heap.size hlg1 (by simp)).trans HLV.out.1); have d0 := cell_of_row w3 w.heap.size 0 _ 123 (0, 0) hb3; have e0 := frozen_of_row w3 w.heap.size 0 _ 123 hb3)
      all_goals go_wp2
      all_goals go_roundw
      all_goals first
       | (simp [intOf]; omega)
       | (have hgr : V.grownBy w3 (Value.slice (some ⟨b, 0, none⟩) l.length c).ownBlock := grown_trans (grown_trans (grown_drewN ⟨rfl, rfl, rfl, Nat.le_refl _, fun _ _ _ => rfl⟩ _) (World.grownBy_alloc _ _ _)) hg3
          have hst := LogA.stored (e := ⟨(l.length : Int) + 1, et, ek, ex⟩) HLa.out HV1.out (by exact hown3) hgr (by exact hat3.imp id (fun e => by rw [e]; have := HV1.out.size; simp; omega)) 0
          obtain ⟨A', c', _, f1, f2, _, _⟩ := hst
          exact ⟨l ++ [⟨(l.length : Int) + 1, et, ek, ex⟩], r, o + n, by first | rfl | go_num | (push_cast; rfl), HO2.out, HS2.out, HK2.out, ⟨A', c', f1⟩, hbr.trans f2⟩)
   ·have e1 : decide (en = (l.length : Int) + 1) = false := by simp [hnum]
    have e2 : (en == (l.length : Int) + 1) = false := by simp [hnum]
    have e3 : (en != (l.length : Int) + 1) = true := by simp [hnum]
    have HNum := Lib.hid hnum
    clear hnum
    go_quiet (fail)
    go_wp2
    go_ret3
    exact ⟨l, rest, by rw [← HO.out]; rfl, ⟨A, c, HL1.out⟩, HOk.out, HSr.out, fun e' r' ho' hr' => by
     obtain ⟨rfl, _⟩ := enc_inj ho' HOe.out (hr'.symm.trans HBe.out)
     exact fun x => HNum.out x.1, HFin.out _⟩
end Go.Proofs.YtaebebpldkciiaaGreatDoor
namespace Go.Proofs.YtaebebpldkciiaaGreatDoor
open Go.RowKit
open Go.Lib hiding intOf
theorem encs_append (a b : List Ent) : encs (a ++ b) = encs a ++ encs b := by simp [encs]
theorem recov_step {l L : List Ent} {r R : L8} (hl : LogOk l) (hL : LogOk L) (hs : Stop l r) (h : encs l ++ r = encs L ++ R) :
  ∀ k, k ≤ L.length → k ≤ l.length ∧ l.take k = L.take k := by
 intro k
 induction k with
 | zero => exact fun _ => ⟨by omega, rfl⟩
 | succ k ih =>
  intro hk
  obtain ⟨h1, h2⟩ := ih (by omega)
  have e1 : encs l = encs (l.take k) ++ encs (l.drop k) := by rw [← encs_append, List.take_append_drop]
  have e2 : encs L = encs (L.take k) ++ encs (L.drop k) := by rw [← encs_append, List.take_append_drop]
  rw [e1, e2, h2, List.append_assoc, List.append_assoc] at h
  have h := List.append_cancel_left h
  have hx : L[k]? = some L[k] := List.getElem?_eq_getElem (by omega)
  obtain ⟨xn, xo⟩ := hL.1 k _ hx
  have d2 : L.drop k = L[k] :: L.drop (k + 1) := List.drop_eq_getElem_cons (by omega)
  rw [d2] at h
  by_cases hlt : k < l.length
  ·have hy : l[k]? = some l[k] := List.getElem?_eq_getElem hlt
   obtain ⟨_, yo⟩ := hl.1 k _ hy
   have d1 : l.drop k = l[k] :: l.drop (k + 1) := List.drop_eq_getElem_cons hlt
   rw [d1] at h
   unfold encs at h
   rw [List.flatMap_cons, List.flatMap_cons, List.append_assoc, List.append_assoc] at h
   obtain ⟨e, _⟩ := enc_inj yo xo h
   refine ⟨hlt, ?_⟩
   rw [List.take_add_one, List.take_add_one, h2, hx, hy, e]
  ·have hkl : l.length = k := by omega
   have hlL : l = L.take k := by rw [← h2, List.take_of_length_le (by omega)]
   rw [List.drop_eq_nil_of_le (by omega)] at h
   unfold encs at h
   rw [List.flatMap_nil, List.nil_append, List.flatMap_cons, List.append_assoc] at h
   refine absurd ⟨by rw [hkl]; exact xn, fun h0 => ?_⟩ (hs _ _ xo h)
   obtain ⟨e, he, hlt'⟩ := last_some h0
   rw [hlt']
   refine hL.2 (k - 1) e _ ?_ (by rw [show k - 1 + 1 = k by omega]; exact hx)
   rw [hkl, hlL, List.getElem?_take] at he
   rw [if_pos (by omega)] at he
   exact he
theorem recov_pre {l L : List Ent} {r R : L8} (hl : LogOk l) (hL : LogOk L) (hs : Stop l r) (h : encs l ++ r = encs L ++ R) : ∃ t, l = L ++ t ∧ encs t ++ r = R := by
 obtain ⟨h1, h2⟩ := recov_step hl hL hs h L.length (Nat.le_refl _)
 rw [List.take_length] at h2
 have e0 : l = L ++ l.drop L.length := by
  have := List.take_append_drop L.length l
  rw [h2] at this
  exact this.symm
 refine ⟨_, e0, ?_⟩
 rw [(congrArg encs e0).trans (encs_append _ _), List.append_assoc] at h
 exact List.append_cancel_left h
end Go.Proofs.YtaebebpldkciiaaGreatDoor
namespace Go.Proofs.YtaebebpldkciiaaGreatDoor
open Go.RowKit
open Go.Lib hiding intOf
theorem own_sl {w : World} {base c : Nat} {A : Option Addr} {l : List Ent} (h : w.ownsRow base 78 4 (.slice A l.length c) l.length (l.flatMap rowE)) : Sl w w.heap.size 4 A l.length (fun i => rowE ((l[i]?).getD zeroE)) :=
 Sl.of_own h (Nat.le_refl _) fun i hi j v hj => by
  refine rowE_at l i _ ?_ j v hj
  rw [List.getElem?_eq_getElem hi]; rfl
theorem Entries_all {g c : Nat} {A : Option Addr} {l : List Ent} {w : World} (h : LogA g A c l w) (hl : l.length ≤ 1000) :
  Calls Tryz.prog 33 #[.pointer (some ⟨g, 0, none⟩), .int .i64 1] w fun y w' => ∃ A c, y = .returned (.slice A l.length c) ∧ l.length ≤ c ∧ c ≤ maxLen ∧ (A = none → l.length = 0 ∧ c = 0) ∧ Sl w' w'.heap.size 4 A l.length (fun k => rowE ((l[k]?).getD zeroE)) ∧ Below w.heap.size w w' := by
 have h1 := Entries_any h 0 0 (by omega) (by omega) hl
 rw [List.drop_zero] at h1
 refine h1.mono ?_
 rintro y w' ⟨A, c, rfl, hown, hb⟩
 have hcap := own_cap hown
 exact ⟨A, c, rfl, hcap.1, hcap.2, own_nil hown, own_sl hown, hb⟩
end Go.Proofs.YtaebebpldkciiaaGreatDoor
namespace Go.Proofs.YtaebebpldkciiaaGreatDoor
open Go.RowKit
open Go.Lib hiding intOf
theorem LogOk.take {l : List Ent} (h : LogOk l) (m : Nat) : LogOk (l.take m) := by
 refine ⟨fun i e hi => ?_, fun i e e' hi hi' => ?_⟩
 ·rw [List.getElem?_take] at hi
  split at hi
  ·exact h.1 i e hi
  ·cases hi
 ·rw [List.getElem?_take] at hi hi'
  split at hi <;> split at hi'
  ·exact h.2 i e e' hi hi'
  ·cases hi'
  ·cases hi
  ·cases hi
theorem encs_split (L : List Ent) (m : Nat) : encs L = encs (L.take m) ++ encs (L.drop m) := by rw [← encs_append, List.take_append_drop]
theorem encs_cons (a : Ent) (t : List Ent) : encs (a :: t) = encL a ++ encs t := by simp [encs]
theorem torn_eq {L l : List Ent} {rest : L8} {p m : Nat} (hL : LogOk L) (hl : LogOk l) (hs : Stop l rest) (h : (encs L).take p = encs l ++ rest) (hm : m ≤ L.length) (h1 : (encs (L.take m)).length ≤ p)
  (h2 : m < L.length → p < (encs (L.take (m + 1))).length) : l = L.take m := by
 have e1 := encs_split L m
 have e2 : (encs L).take p = encs (L.take m) ++ (encs (L.drop m)).take (p - (encs (L.take m)).length) := by
  rw [e1, List.take_append, List.take_of_length_le h1]
 obtain ⟨t, rfl, ht⟩ := recov_pre hl (hL.take m) hs (h.symm.trans e2)
 suffices t = [] by rw [this, List.append_nil]
 cases t with
 | nil => rfl
 | cons y t =>
  exfalso
  have hy : Ok y := (hl.1 (L.take m).length y (by rw [List.getElem?_append_right (Nat.le_refl _)]; simp)).2
  have hyl := encL_len hy
  rw [encs_cons, List.append_assoc] at ht
  by_cases hlt : m < L.length
  ·have hx := hL.1 m _ (List.getElem?_eq_getElem hlt)
   have d2 : L.drop m = L[m] :: L.drop (m + 1) := List.drop_eq_getElem_cons hlt
   have hsn := encs_snoc (List.getElem?_eq_getElem hlt)
   have hq := h2 hlt
   rw [hsn, List.length_append] at hq
   rw [d2, encs_cons, List.take_append_of_le_length (by omega)] at ht
   have h3 : encL y ++ ((encs t ++ rest) ++ (encL L[m]).drop (p - (encs (L.take m)).length)) = encL L[m] ++ [] := by
    rw [← List.append_assoc, ht, List.append_nil, List.take_append_drop]
   have h4 := (enc_inj hy hx.2 h3).2
   have h5 := congrArg List.length (List.append_eq_nil_iff.1 h4).2
   simp at h5
   omega
  ·rw [List.drop_eq_nil_of_le (by omega)] at ht
   have h5 := congrArg List.length ht
   simp [encs] at h5
   rw [h5.1] at hyl
   simp at hyl
theorem torn_all {L l : List Ent} {rest : L8} {p : Nat} (hL : LogOk L) (hl : LogOk l) (hs : Stop l rest) (h : (encs L).take p = encs l ++ rest) :
  ∃ m, m ≤ L.length ∧ l = L.take m ∧ (encs l).length ≤ p ∧ ∀ x, L[m]? = some x → p < (encs l).length + (encL x).length := by
 have key : ∀ k, k ≤ L.length → (encs (L.take k)).length ≤ p ∨ ∃ m, m < k ∧ (encs (L.take m)).length ≤ p ∧ p < (encs (L.take (m + 1))).length := fun k => by
  induction k with
  | zero => intro _; left; simp [encs]
  | succ k ih =>
   intro hk
   rcases ih (by omega) with h1 | ⟨m, h1, h2⟩
   ·rcases Nat.lt_or_ge p (encs (L.take (k + 1))).length with h2 | h2
    ·exact .inr ⟨k, by omega, h1, h2⟩
    ·exact .inl h2
   ·exact .inr ⟨m, by omega, h2⟩
 obtain ⟨m, hm, h1, h2⟩ : ∃ m, m ≤ L.length ∧ (encs (L.take m)).length ≤ p ∧ (m < L.length → p < (encs (L.take (m + 1))).length) := by
  rcases key L.length (Nat.le_refl _) with h1 | ⟨m, h1, h2, h3⟩
  ·exact ⟨L.length, Nat.le_refl _, h1, fun h => absurd h (by omega)⟩
  ·exact ⟨m, by omega, h2, fun _ => h3⟩
 have e := torn_eq hL hl hs h hm h1 h2
 refine ⟨m, hm, e, by rw [e]; exact h1, fun x hx => ?_⟩
 have h3 := h2 (List.getElem?_eq_some_iff.1 hx).1
 rw [encs_snoc hx, List.length_append, ← e] at h3
 exact h3
end Go.Proofs.YtaebebpldkciiaaGreatDoor
namespace Go.Proofs.YtaebebpldkciiaaGreatDoor
open Go.RowKit
open Go.Lib hiding intOf
set_option maxRecDepth 100000 in
theorem run_eqE (x y : Ent) (w : World) : (Op.equalIn 10000 78 (valE x) (valE y)).run Tryz.prog w = .ok (eqE x y) w := by
 have u9 := Tryz.underlying9
 have a9 := Tryz.isAgg9
 have z9 := Tryz.sizeOf9
 have u3 := Tryz.underlying3
 have a3 := Tryz.isAgg3
 have z3 := Tryz.sizeOf3
 have hS : Tryz.prog.underlying 78 = some (.struct (Tryz.prog.fieldsOf 78)) := by kernel_rfl
 have hp : Tryz.prog.stoodInHeld 78 = false := by kernel_rfl
 obtain ⟨n, t, k, z⟩ := x
 obtain ⟨n', t', k', z'⟩ := y
 simp only [valE, eqE]
 rw [show (10000 : Nat) = 9999 + 1 from rfl, run_equalIn_agg w 9999 78 _ _ hS hp]
 simp only [Program.fieldsOf, Tryz.underlying78]
 go_simp
 by_cases h1 : n = n' <;> by_cases h2 : t = t' <;> by_cases h3 : k.toList = k'.toList <;> by_cases h4 : z.toList = z'.toList <;> simp [h1, h2, h3, h4]
set_option maxRecDepth 100000 in
set_option maxHeartbeats 2000000 in
theorem EqualE (A B : Option Addr) (f : Nat → Ent) (n c d N : Nat) (w : World) (hA : Sl w N 4 A n (fun i => rowE (f i))) (hB : Sl w N 4 B n (fun i => rowE (f i))) (hn : n ≤ 10000) :
  Calls Tryz.prog 34 #[.slice A n c, .slice B n d] w fun e w' => e = .returned (.bool true) ∧ ∃ q, w' = w.drewN q := by
 have HA := Lib.hid hA
 have HB := Lib.hid hB
 clear hA hB
 go_enter Tryz.func34, Tryz.ntmps34
 go_wp2
 go_loopw [5, 13] (fun _ k wr => ∃ j : Nat, j ≤ n ∧ k = .int .i64 (j : Int) ∧ ∃ q, wr = w.drewN q) (fun _ k _ => n - (intOf k).toNat)
 case atStart => exact ⟨0, by omega, rfl, 0, rfl⟩
 case round =>
  obtain ⟨j, hj, rfl, q, rfl⟩ := hrel
  by_cases hlt : j < n
  ·obtain ⟨b, off, rfl, hb, p0, p1, p2, p3⟩ := HA.out.four j hlt
   obtain ⟨b2, off2, rfl, hb2, r0, r1, r2, r3⟩ := HB.out.four j hlt
   obtain ⟨x, hx⟩ : ∃ x, f j = x := ⟨_, rfl⟩
   rw [hx] at p0 p1 p2 p3 r0 r1 r2 r3
   have hbe := fun W => run_eqE x x W
   rw [eqE_refl] at hbe
   obtain ⟨xn, xt, xk, xx⟩ := x
   unfold valE at hbe
   simp only at hbe p0 p1 p2 p3 r0 r1 r2 r3
   have l1 : (j : Int) < (n : Int) := by omega
   have l0 : (0 : Int) ≤ (j : Int) := by omega
   clear hx
   go_wp2
   go_quiet (fail)
   go_wp2
   go_roundw
   case rel => exact ⟨j + 1, by omega, by go_num, _, rfl⟩
   case measure => simp [intOf]; omega
  ·go_wp2
   go_ret
   exact ⟨rfl, q, rfl⟩
end Go.Proofs.YtaebebpldkciiaaGreatDoor
