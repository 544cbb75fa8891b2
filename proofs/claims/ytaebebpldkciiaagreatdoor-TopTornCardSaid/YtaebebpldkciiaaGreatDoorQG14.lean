/- Contracts and plain words, part 14: texts U4, U12. -/
import Derived.Test.YtaebebpldkciiaaGreatDoorQG13
import Derived.Test.YtaebebpldkciiaaGreatDoorQG09
import Derived.Test.YtaebebpldkciiaaGreatDoorQG04
import Derived.Sort.CutIn
import Derived.Test.YtaebebpldkciiaaGreatDoorQG12
namespace Go.Proofs.YtaebebpldkciiaaGreatDoor
section
theorem al_old (w : World) (o : Obj) (i : Nat) (h : i < w.heap.size) : (w.alloc o).heap[i]? = w.heap[i]? := by
 simp only [World.alloc]
 exact Array.getElem?_push_lt h |>.trans (Array.getElem?_eq_getElem h).symm
theorem al_old2 (w : World) (o : Obj) {i : Nat} (h : i < w.heap.size) : (w.alloc o).heap[i]? = w.heap[i]? := al_old w o i h
end
section
open Go.RowKit Go.Shelf
attribute [local go_sem] Oper.semAt_some
theorem All_stops (n : Nat) (hn : 1 ≤ n) (Bn n0 : Nat) (A : Option Addr) (c : Nat) (l : Tu) (hok : TuOk l) (w : World) (hc : w.cell? ⟨Bn, 0, none⟩ = some (.slice A l.length c)) (hBn : Bn < n0) (hS : Sl w n0 6 A l.length (fun i => ndV l[i]!)) (hn0 : n0 ≤ w.heap.size) :
  SeqStopsK Fence.wide n Tryz.prog 192 #[.pointer (some ⟨Bn, 0, none⟩)] (fun x : SecN l => #[ndA x.1]) (Below n0) (fun ys => ys.map (·.1) = secs l) (fun _ => True) 300000 w := fun lp J Jx W hW hJ _ hY h0 =>
 All1_in n hn lp Bn n0 A c l hok J Jx W hJ hY ((hW.cell (p := ⟨Bn, 0, none⟩) (Nat.lt_of_lt_of_le hBn hn0)).trans hc) hBn (hS.below (hW.mono hn0)) (Nat.le_trans hn0 hW.size) h0
theorem tubeAt_ok {l : Tu} (h : TuOk l) (t : Int) : tubeAt l t = if t < fstT l ∨ lstT l < t then (default, 12) else (atN l t, 0) := by
 unfold tubeAt
 rw [if_neg (by simp [h.e])]
theorem nodeAt_nil (t : Int) : nodeAt [] t = [] := rfl
theorem nodeAt_ok {l : Tu} (h : TuOk l) (t : Int) : nodeAt l t = if t < fstT l ∨ lstT l < t then [] else [atN l t] := by
 unfold nodeAt
 rw [tubeAt_ok h]
 by_cases ht : t < fstT l ∨ lstT l < t
 ·rw [if_pos ht, if_pos ht]; rfl
 ·rw [if_neg ht, if_neg ht]; rfl
theorem node_in {l : Tu} (h : TuOk l ∨ l = []) {t : Int} {n : Nd} (hn : n ∈ nodeAt l t) : NdOk n ∧ n.t = t := by
 rcases h with h | h
 ·rw [nodeAt_ok h] at hn
  by_cases ht : t < fstT l ∨ lstT l < t
  ·rw [if_pos ht] at hn; simp at hn
  ·rw [if_neg ht] at hn
   rw [List.mem_singleton] at hn
   subst hn
   exact atN_ok h (by omega) (by omega)
 ·subst h
  rw [nodeAt_nil] at hn
  simp at hn
theorem places_in {f : Fl} (hf : FlOk f) {t : Int} {n : Nd} (hn : n ∈ placesP f t) : NdOk n ∧ n.t = t := by
 unfold placesP at hn
 rcases List.mem_append.1 hn with hn | hn
 ·unfold legP at hn
  cases hfd : f.legs.reverse.find? (fun l => decide (fstT l ≤ t)) with
  | none => rw [hfd] at hn; simp at hn
  | some l =>
   rw [hfd] at hn
   have hm := List.mem_reverse.1 (List.mem_of_find?_eq_some hfd)
   obtain ⟨i, hi, rfl⟩ := List.getElem_of_mem hm
   have := hf.legs i hi
   rw [getElem!_pos f.legs i hi] at this
   exact node_in (.inl this) hn
 ·rcases hf.next with h | h
  ·exact node_in (.inr h) hn
  ·exact node_in (.inl h) hn
theorem sec_in {l : Tu} (h : TuOk l) {n : Nd} (hn : n ∈ secs l) : NdOk n := by
 obtain ⟨t, h0, h1, rfl⟩ := secs_mem hn
 exact (atN_ok h h0 h1).1
theorem FlM.fla {F : Nat → Prop} {x : Fm} {ts : List Hd} {f : Fl} {w : World} (h : FlM F x ts f w) : FlA x f w := by
 refine ⟨h.call, h.wake, h.slot, h.lands, h.land, h.nland, ⟨h.ln.symm, fun h0 => ?_⟩, h.next.tua⟩
 have hl := h.legs.1
 rw [← h.ln] at hl
 obtain ⟨b, cap, hv, _, hb⟩ := hl.form h0
 have hA : x.la = some ⟨b, 0, none⟩ := by injection hv
 have hS := Sl_rows hdV_len hl (by rw [h.tl, h.ln]) (by decide)
 obtain ⟨b2, off, e2, hb2, hr⟩ := hS h0
 refine ⟨b2, off, e2, hb2, fun i hi => ?_⟩
 have hc := hr i hi 0 _ rfl
 rw [Nat.mul_one, Nat.add_zero] at hc
 exact ⟨_, _, _, hc, (h.leg i (by rw [← h.ln]; exact hi)).tua⟩
theorem FlA.nn {x : Fm} {f : Fl} {w : World} (h : FlA x f w) (hok : FlOk f) : x.nn ≤ maxLen := by
 have e := h.next.1
 unfold maxLen
 rcases hok.next with h1 | h1
 ·rw [h1] at e; simp at e; omega
 ·have := h1.n1; omega
theorem keeps_below {W W' : World} (h : Below W.heap.size W W') : KeepsOthers W W' := ⟨h.size, fun k _ hk _ => (h.block k (Array.getElem?_eq_some_iff.1 hk).1).trans hk⟩
def frK (g : Nat) (call : ByteArray) (A : Option Addr) (n cA B0 Bn Bx : Nat) (q : Nd) : Act := { tmps := #[.pointer (some ⟨g, 0, none⟩), .string call, .slice A n cA, .pointer (some ⟨B0, 0, none⟩), .pointer (some ⟨B0 + 1, 0, none⟩), undef, .pointer (some ⟨B0 + 1 + 1, 0, none⟩), .pointer (some ⟨Bx, 0, none⟩), undef, undef, undef, undef, undef, undef, .slice A n cA, .func (.func 192) #[] #[.pointer (some ⟨Bn, 0, none⟩)], ndA q, undef, undef, undef, undef, undef, undef, undef, undef, undef, undef, undef, undef, undef, undef, undef, undef, undef, undef, undef, undef, undef, undef, undef, undef, undef, undef, undef, undef, undef, undef, undef, undef, undef, undef, undef, undef, undef, undef], defers := [] }
structure KBox (g : Nat) (call : ByteArray) (B0 : Nat) (W : World) : Prop where
 p : W.heap[B0]? = some (.cells #[.pointer (some ⟨g, 0, none⟩)] 37 (0, 0))
 s : W.heap[B0 + 1]? = some (.cells #[.string call] 9 (0, 0))
 r : W.heap[B0 + 1 + 1]? = some (.cells #[.bool false] 4 (0, 0))
theorem KBox.below {g : Nat} {call : ByteArray} {B0 B : Nat} {W W' : World} (h : KBox g call B0 W) (hB : B0 + 2 < B) (hb : Below B W W') : KBox g call B0 W' :=
 ⟨(hb.block _ (by omega)).trans h.p, (hb.block _ (by omega)).trans h.s, (hb.block _ hB).trans h.r⟩
def NdB (Bx : Nat) (q : Nd) (W : World) : Prop := W.heap[Bx]? = some (.cells #[.int .i64 q.t, .int .i64 q.x, .int .i64 q.y, .int .i64 q.h, .int .i64 q.r, .int .i64 q.b] 52 (0, 0))
theorem NdB.lt {Bx : Nat} {q : Nd} {W : World} (h : NdB Bx q W) : Bx < W.heap.size := (Array.getElem?_eq_some_iff.1 h).1
theorem NdB.at_ {Bx : Nat} {q : Nd} {W : World} (h : NdB Bx q W) : NdAt Bx q W := ⟨cell_of_row _ _ 0 _ _ _ h, cell_of_row _ _ 1 _ _ _ h, cell_of_row _ _ 2 _ _ _ h, cell_of_row _ _ 3 _ _ _ h, cell_of_row _ _ 4 _ _ _ h, cell_of_row _ _ 5 _ _ _ h⟩
set_option maxRecDepth 100000 in
set_option maxHeartbeats 16000000 in
theorem clash_any {F : Nat → Prop} {g : Nat} {S : Su} {c : Ce} {y : Lay} {w : World} (h : CeM F g S c y w) (hok : CeOk c) (hS : SuOk S) (call : ByteArray) (A : Option Addr) (cA : Nat) (l : Tu) (hA : TuA A l.length l w) (hl : TuOk l) :
  Calls Tryz.prog 105 #[.pointer (some ⟨g, 0, none⟩), .string call, .slice A l.length cA] w fun e w' => e = .returned (.bool (clashP S c.fl call l)) ∧ Below w.heap.size w w' := by
 have hl1 := hl.n1
 obtain ⟨B0, hB0⟩ : ∃ B0, w.heap.size = B0 := ⟨_, rfl⟩
 obtain ⟨W0, hW0⟩ : ∃ W0, ((w.alloc (.cells #[.pointer (some ⟨g, 0, none⟩)] 37)).alloc (.cells #[.string call] 9)).alloc (.cells #[.bool false] 4) = W0 := ⟨_, rfl⟩
 have hz0 : W0.heap.size = B0 + 3 := by rw [← hW0, size_al, size_al, size_al, hB0]
 have hb0 : Below B0 w W0 := by
  rw [← hW0]
  exact (((Below.refl _ w).alloc (by omega) _).alloc (by rw [size_al]; omega) _).alloc (by rw [size_al, size_al]; omega) _
 have hK0 : KBox g call B0 W0 := by
  have e1 := heap_alloc_new w (.cells #[.pointer (some ⟨g, 0, none⟩)] 37)
  have e2 := heap_alloc_new (w.alloc (.cells #[.pointer (some ⟨g, 0, none⟩)] 37)) (.cells #[.string call] 9)
  have e3 := heap_alloc_new ((w.alloc (.cells #[.pointer (some ⟨g, 0, none⟩)] 37)).alloc (.cells #[.string call] 9)) (.cells #[.bool false] 4)
  rw [size_al] at e2
  rw [size_al, size_al] at e3
  rw [hB0] at e1 e2 e3
  refine ⟨?_, ?_, ?_⟩
  ·rw [← hW0, al_old _ _ _ (by rw [size_al, size_al]; omega), al_old _ _ _ (by rw [size_al]; omega)]; exact e1
  ·rw [← hW0, al_old _ _ _ (by rw [size_al, size_al]; omega)]; exact e2
  ·rw [← hW0]; exact e3
 have HAll := Lib.hid (All_any A l.length cA l W0 (hA.below (by rw [hB0]; exact hb0)) hl1)
 have HK0 := Lib.hid hK0
 have HM := Lib.hid (fun (W : World) (hb : Below w.heap.size w W) => h.below hb)
 have HB0 := Lib.hid hB0
 have HBl0 := Lib.hid hb0
 have HZ0 := Lib.hid hz0
 have fin : ∀ D (W : World), Below B0 w W → B0 ≤ D → (∃ o, W.heap[D]? = some (.deferred o)) → Below B0 w (W.putObj D (.deferred none)) := fun D W hb hD ⟨o, ho⟩ =>
  hb.trans (belowK_b (w := w) (by omega) W D _ _ (by omega) ho rfl rfl)
 have FIN := Lib.hid fin
 clear hz0 hb0 hK0 hA h fin
 refine (callsIn_wide (n := 10)).1 ?_
 refine callsIn_of_wp_marks Tryz.func105 rfl trivial ?_ rfl
 simp only [Tryz.ntmps105, List.size_toArray, List.length_cons, List.length_nil, Nat.reduceAdd, Nat.reduceSub, Array.replicate_succ, Array.replicate_zero, List.push_toArray, List.append_toArray, List.nil_append, List.cons_append]
 refine wpIn_wide.2 ?_
 go_wp2_with (go_at_call 153; refine HAll.out.mono ?_; rintro e w1 ⟨A', c', rfl, hc1, hT1, hb1, hz1⟩)
 rw [HZ0.out] at hc1 hz1 hb1 ⊢
 have hB1 : Below B0 w w1 := HBl0.out.trans (hb1.mono (by omega))
 have hK1 := HK0.out.below (by omega) hb1
 have HKB := Lib.hid hK1
 have HS1 := Lib.hid hT1.2
 have HM1 := Lib.hid (HM.out w1 (by rw [HB0.out]; exact hB1))
 have HBw1 := Lib.hid hB1
 obtain ⟨Bn, hBn⟩ : ∃ Bn, B0 + 3 = Bn := ⟨_, rfl⟩
 rw [hBn] at hc1 hz1 ⊢
 have HBn := Lib.hid hBn
 have HC1 := Lib.hid hc1
 clear hK1 hB1 hc1 hBn hb1 hT1 hB0
 refine (wpIn_wide (n := 10)).1 ?_
 refine wpIn_rangeFunc_ownH rfl (by omega) (gf := 192) (lb := #[.pointer (some ⟨Bn, 0, none⟩)]) rfl trivial (enters_of Tryz.func192 (by kernel_rfl) rfl)
  (All_stops 9 (by omega) Bn w1.heap.size A' c' l hl w1 HC1.out hz1 HS1.out (Nat.le_refl _)) belowK_t (belowK_b (Nat.le_refl _)) (Below.refl _ _) (fun _ => rfl)
  (fun pre W => (∀ x ∈ pre, (c.fl.any fun f => hitsF S call x.1 f) = false) ∧ Below w1.heap.size w1 W)
  (fun k _ W => (k = .ret ∧ ∃ x : SecN l, (c.fl.any fun f => hitsF S call x.1 f) = true) ∧ (∃ t, W.heap[B0 + 1 + 1]? = some (.cells #[.bool true] t (0, 0))) ∧ Below B0 w W)
  ?hI ?hIx ?h0 (fun x a' W => ∃ Bx, w1.heap.size ≤ Bx ∧ NdB Bx x.1 W ∧ a' = frK g call A l.length cA B0 Bn Bx x.1) ?hAx ?assign ?body ?done ?stop
 case hI => exact OwnFrom.and (fun s A B row hs _ _ => hs) (ownFrom_below (Nat.le_refl _) (Nat.le_refl _))
 case hIx =>
  intro k
  refine OwnFrom.and (fun s A B row hs _ _ => hs) (OwnFrom.and (fun s A B row hs hg hr => ?_) (ownFrom_below (by have := HB0.out; omega) (by have := HBw1.out.size; have := HB0.out; omega)))
  obtain ⟨t, ht⟩ := hs
  exact ⟨t, (hg.block _ (Array.getElem?_eq_some_iff.1 ht).1 (fun e => by obtain ⟨_, o, ho, hc⟩ := hr _ e.symm; rw [ht] at ho; cases ho; cases hc)).trans ht⟩
 case h0 => exact ⟨fun x hx => by simp at hx, Below.refl _ _⟩
 case hAx =>
  intro x a' s A B row hs hg hr
  obtain ⟨Bx, h1, h2, h3⟩ := hs
  refine ⟨Bx, h1, ?_, h3⟩
  exact (hg.block _ h2.lt (fun e => by obtain ⟨_, o, ho, hc⟩ := hr _ e.symm; rw [show A.heap[Bx]? = _ from h2] at ho; cases ho; cases hc)).trans h2
 case assign =>
  rintro lp pre x W K ⟨hi1, hi2⟩ hK
  have hA1 : Below w1.heap.size W (W.alloc (.cells #[.int .i64 x.1.t, .int .i64 x.1.x, .int .i64 x.1.y, .int .i64 x.1.h, .int .i64 x.1.r, .int .i64 x.1.b] 52)) := (Below.refl _ _).alloc hi2.size _
  have HKK := Lib.hid (hK (frK g call A l.length cA B0 Bn W.heap.size x.1) _ ((KeepsOthers.alloc W (.cells #[.int .i64 x.1.t, .int .i64 x.1.x, .int .i64 x.1.y, .int .i64 x.1.h, .int .i64 x.1.r, .int .i64 x.1.b] 52)).from _) hA1 ⟨hi1, hi2.trans hA1⟩ ⟨W.heap.size, hi2.size, heap_alloc_new _ _, rfl⟩)
  unfold frK ndA at HKK
  clear hA1 hK
  unfold ndA
  gi_wp2
  exact HKK.out
 case body =>
  rintro lp pre x a' W hlp ⟨rec, hrec⟩ ⟨hi1, hi2⟩ ⟨Bx, hBx, hNx, rfl⟩ hlen
  have hbw : Below B0 w W := HBw1.out.trans (hi2.mono (by have := HBw1.out.size; have := HB0.out; omega))
  have hKB := HKB.out.below (by have := HBn.out; omega) hi2
  have hM := HM1.out.kept (.of_below hi2)
  have hx1 := sec_in hl x.2
  obtain ⟨q, hq⟩ : ∃ q, x.1 = q := ⟨_, rfl⟩
  rw [hq] at hNx hx1
  have hB01 : B0 + 1 + 1 < W.heap.size := (Array.getElem?_eq_some_iff.1 hKB.r).1
  have hgW : g < W.heap.size := hM.bd g hM.fg
  have HMW := Lib.hid hM
  have HKW := Lib.hid hKB
  have HNW := Lib.hid hNx
  have HQ := Lib.hid hq
  have HI1 := Lib.hid hi1
  have HI2 := Lib.hid hi2
  have HBW := Lib.hid hbw
  have hlt := hNx.lt
  have e3 : W.cell? ⟨B0, 0, none⟩ = some (.pointer (some ⟨g, 0, none⟩)) := cell_of_row _ _ 0 _ _ _ hKB.p
  have e19 : W.cell? ⟨g, 19, none⟩ = some (.slice y.fh.A y.fh.n y.fh.c) := hM.cell 19
  have HFn := Lib.hid hM.fh
  have HFc := Lib.hid hok.len
  have HF24 := Lib.hid hok.ow.n
  obtain ⟨fA, hfA⟩ : ∃ fA, y.fh.A = fA := ⟨_, rfl⟩
  obtain ⟨fC, hfC⟩ : ∃ fC, y.fh.c = fC := ⟨_, rfl⟩
  obtain ⟨nf, hnf⟩ : ∃ nf, y.fh.n = nf := ⟨_, rfl⟩
  have HFS : Hid (nf = c.fl.length ∧ nf ≤ 24) := Lib.hid (by have := HFn.out; have := HFc.out; have := HF24.out; omega)
  have HSl := Lib.hid (fun (W' : World) (hb : Below W.heap.size W W') => (show Sl W' W'.heap.size 8 fA nf (fun i => fmV y.fs[i]!) from by rw [← hfA, ← hnf]; exact (hM.kept (.of_below hb)).sl))
  rw [hfA, hfC, hnf] at e19
  clear hfA hfC hnf
  have HX1 := Lib.hid hx1
  rw [hq]
  clear hrec hM hKB hNx hq hi1 hi2 hbw hx1 hlen
  have hnf0 : (0 : Int) ≤ (nf : Int) := by omega
  unfold frK
  gi_wp2
  gi_loopw [22] (fun i wr => ∃ j : Nat, j ≤ nf ∧ i = .int .i64 (j : Int) ∧ Hid (∀ k, k < j → hitsF S call q c.fl[k]! = false) ∧ Hid (Below W.heap.size W wr)) (fun i _ => nf - (intOf i).toNat)
  case atStart => exact ⟨0, by omega, rfl, Lib.hid (fun k hk => absurd hk (by omega)), Lib.hid (Below.refl _ _)⟩
  case round =>
   obtain ⟨j, hj, rfl, HG, HB⟩ := hrel
   clear e3 e19
   obtain ⟨wo, hwo⟩ : ∃ wo : World, wo = wr := ⟨_, rfl⟩
   subst hwo
   have hzr := HB.out.size
   by_cases hlt' : j < nf
   ·have h24 := HFS.out
    have l0 : (0 : Int) ≤ (j : Int) := by omega
    have l1 : (j : Int) < (nf : Int) := by omega
    have hjw : IntKind.i64.wrap ((j : Int) + 1) = (j : Int) + 1 := IntWalk.i64_in _ (by omega)
    have hMr := HMW.out.kept (.of_below HB.out)
    obtain ⟨b, off, rfl, hbb, hrow⟩ := HSl.out wo HB.out (by omega)
    have hcs : ∀ k v, (fmV y.fs[j]!)[k]? = some v → wo.cell? ⟨b, off + j * 8 + k, none⟩ = some v := fun k v hv => hrow j hlt' k v hv
    have hFl := (hMr.fl j (by omega)).fla
    have hFok := hok.fl c.fl[j]! (by rw [getElem!_pos c.fl j (by omega)]; exact List.getElem_mem _)
    obtain ⟨xf, hxf⟩ : ∃ xf, y.fs[j]! = xf := ⟨_, rfl⟩
    obtain ⟨f, hf⟩ : ∃ f, c.fl[j]! = f := ⟨_, rfl⟩
    rw [hxf] at hcs hFl
    rw [hf] at hFl hFok
    obtain ⟨fcall, fwake, fslot, flands, fla, fln, flc, fna, fnn, fnc, fland, fnland⟩ := xf
    have d0 : wo.cell? ⟨b, off + j * 8, none⟩ = some (.string fcall) := hcs 0 _ rfl
    have d1 : wo.cell? ⟨b, off + j * 8 + 1, none⟩ = some (.int .i64 fwake) := hcs 1 _ rfl
    have d2 : wo.cell? ⟨b, off + j * 8 + 2, none⟩ = some (.int .i64 fslot) := hcs 2 _ rfl
    have d3 : wo.cell? ⟨b, off + j * 8 + 3, none⟩ = some (.bool flands) := hcs 3 _ rfl
    have d4 : wo.cell? ⟨b, off + j * 8 + 4, none⟩ = some (.slice fla fln flc) := hcs 4 _ rfl
    have d5 : wo.cell? ⟨b, off + j * 8 + 5, none⟩ = some (.slice fna fnn fnc) := hcs 5 _ rfl
    have d6 : wo.cell? ⟨b, off + j * 8 + 6, none⟩ = some (.int .i64 fland) := hcs 6 _ rfl
    have d7 : wo.cell? ⟨b, off + j * 8 + 7, none⟩ = some (.int .i64 fnland) := hcs 7 _ rfl
    have hKr := HKW.out.below (by omega) HB.out
    have e4 : wo.cell? ⟨B0 + 1, 0, none⟩ = some (.string call) := cell_of_row _ _ 0 _ _ _ hKr.s
    have hNr : NdB Bx q wo := (HB.out.block Bx hlt).trans HNW.out
    have e7 : wo.cell? ⟨Bx, 0, none⟩ = some (.int .i64 q.t) := hNr.at_.1
    have hl4 : B0 + 1 < wo.heap.size := by omega
    have hlx : Bx < wo.heap.size := by omega
    have hcall : fcall = f.call := hFl.call
    have HFl := Lib.hid hFl
    have HFok := Lib.hid hFok
    have HF := Lib.hid hf
    have HCall := Lib.hid hcall
    have HLT := Lib.hid hlt'
    have HMr := Lib.hid hMr
    have HNr := Lib.hid hNr
    have HKr := Lib.hid hKr
    clear h24 hcs hrow hFl hFok hf hxf hMr hKr hNr hcall hlt'
    by_cases hsame : fcall = call
    ·have eb : (fcall.toList == call.toList) = true := by rw [ba_beq]; exact decide_eq_true hsame
     have hhit : hitsF S call q f = false := by unfold hitsF; rw [← HCall.out, hsame]; simp
     have HHit := Lib.hid hhit
     have HG2 : Hid (∀ k, k < j + 1 → hitsF S call q c.fl[k]! = false) := hid_step HG (by rw [HF.out]; exact HHit.out)
     clear hhit hsame
     gi_wp2
     go_roundw
     case rel => exact ⟨j + 1, by have := HLT.out; omega, by go_num, HG2, Lib.hid (HB.out.alloc hzr _)⟩
     case measure => have := HLT.out; simp [intOf]; omega
    ·have eb : (fcall.toList == call.toList) = false := by rw [ba_beq]; exact decide_eq_false hsame
     have HP := Lib.hid (fun (W' : World) (hb : Below wo.heap.size wo W') => (places_any ⟨fcall, fwake, fslot, flands, fla, fln, flc, fna, fnn, fnc, fland, fnland⟩ f q.t W' ((HFl.out.below hb).legs) ((HFl.out.below hb).next) HFok.out.legs HFok.out.n1 (HFl.out.nn HFok.out)).mono fun e W2 h => (show ∃ (A5 : Option Addr) (c5 : Nat), e = .returned (.slice A5 (placesP f q.t).length c5) ∧ Sl W2 W2.heap.size 6 A5 (placesP f q.t).length (fun i => ndV (placesP f q.t)[i]!) ∧ Below wo.heap.size wo W2 from by
      obtain ⟨A5, c5, h1, h2, h3⟩ := h
      exact ⟨A5, c5, h1, Sl_rows ndV_len h2 rfl (by decide), bstep hb h3⟩))
     have HIn := Lib.hid (fun (k : Nat) (hk : k < (placesP f q.t).length) => places_in HFok.out (t := q.t) (n := (placesP f q.t)[k]!) (by rw [getElem!_pos _ k hk]; exact List.getElem_mem hk))
     have HHit : Hid (hitsF S call q f = (placesP f q.t).any fun p => !sepN q p S.lat S.vert) := Lib.hid (by unfold hitsF; rw [← HCall.out, decide_eq_false hsame]; rfl)
     have HPL : Hid ((placesP f q.t).length ≤ 2) := Lib.hid (by
      unfold placesP
      have h1 : ∀ l t, (nodeAt l t).length ≤ 1 := fun l t => by unfold nodeAt; split <;> simp
      have h2 : (legP f.legs q.t).length ≤ 1 := by
       unfold legP
       split
       ·simp
       ·exact h1 _ _
      have h3 := h1 f.next q.t
      rw [List.length_append]; omega)
     unfold fmA at HP
     generalize hns : placesP f q.t = ns at *
     obtain ⟨m, hm⟩ : ∃ m, ns.length = m := ⟨_, rfl⟩
     rw [hm] at HP HIn HPL
     have HMl := Lib.hid hm
     clear hsame hns hm
     gi_wp2_with (refine ⟨trivial, ?_⟩; gi_at_call 51; refine (CallsIn.inRound lp (callsIn_wide.2 (HP.out _ (by exact (Below.refl _ _).alloc (Nat.le_refl _) _)))).mono ?_; rintro e w5 ⟨A5, c5, rfl, hS5, hb5⟩; have HS5 := Lib.hid hS5; have HB5 := Lib.hid hb5; clear hS5 hb5)
     clear d0 d1 d2 d3 d4 d5 d6 d7 e4 e7
     have hz5 := HB5.out.size
     have hm2 := HPL.out
     gi_loopw [36] (fun i w6 => ∃ r : Nat, r ≤ m ∧ i = .int .i64 (r : Int) ∧ Hid (∀ k, k < r → sepN q ns[k]! S.lat S.vert = true) ∧ Hid (Below w5.heap.size w5 w6)) (fun i _ => m - (intOf i).toNat)
     case atStart => exact ⟨0, by omega, rfl, Lib.hid (fun k hk => absurd hk (by omega)), Lib.hid (Below.refl _ _)⟩
     case round =>
      obtain ⟨r, hr, rfl, HGi, HBi⟩ := hrel
      have hzi := HBi.out.size
      by_cases hlr : r < m
      ·have r0 : (0 : Int) ≤ (r : Int) := by omega
       have r1 : (r : Int) < (m : Int) := by omega
       have hrw : IntKind.i64.wrap ((r : Int) + 1) = (r : Int) + 1 := IntWalk.i64_in _ (by omega)
       have HBo : Hid (Below wo.heap.size wo wr) := Lib.hid (bstep HB5.out HBi.out)
       have hMi := HMr.out.below HBo.out
       have hNi : NdB Bx q wr := (HBo.out.block Bx hlx).trans HNr.out
       have hKi := HKr.out.below (by omega) HBo.out
       obtain ⟨b5, off5, rfl, hb5, hrow⟩ := HS5.out (by omega)
       have hcs : ∀ k v, (ndV ns[r]!)[k]? = some v → wr.cell? ⟨b5, off5 + r * 6 + k, none⟩ = some v := fun k v hv => (HBi.out.cell (p := ⟨b5, off5 + r * 6 + k, none⟩) hb5).trans (hrow r hlr k v hv)
       obtain ⟨hp1, hp2⟩ := HIn.out r hlr
       obtain ⟨p, hp⟩ : ∃ p, ns[r]! = p := ⟨_, rfl⟩
       rw [hp] at hcs hp1 hp2
       have HPe := Lib.hid hp
       have HSep := Lib.hid (fun W' => Separated_any q p S.lat S.vert W' HX1.out hp1 hp2.symm hS.lat hS.vert)
       have d0 : wr.cell? ⟨b5, off5 + r * 6, none⟩ = some (.int .i64 p.t) := hcs 0 _ rfl
       have d1 : wr.cell? ⟨b5, off5 + r * 6 + 1, none⟩ = some (.int .i64 p.x) := hcs 1 _ rfl
       have d2 : wr.cell? ⟨b5, off5 + r * 6 + 2, none⟩ = some (.int .i64 p.y) := hcs 2 _ rfl
       have d3 : wr.cell? ⟨b5, off5 + r * 6 + 3, none⟩ = some (.int .i64 p.h) := hcs 3 _ rfl
       have d4 : wr.cell? ⟨b5, off5 + r * 6 + 4, none⟩ = some (.int .i64 p.r) := hcs 4 _ rfl
       have d5 : wr.cell? ⟨b5, off5 + r * 6 + 5, none⟩ = some (.int .i64 p.b) := hcs 5 _ rfl
       have e3 : wr.cell? ⟨B0, 0, none⟩ = some (.pointer (some ⟨g, 0, none⟩)) := cell_of_row _ _ 0 _ _ _ hKi.p
       have HNi := Lib.hid hNi
       have HMi := Lib.hid hMi
       have HKi := Lib.hid hKi
       unfold ndA at HSep
       clear hcs hrow hp hp1 hp2 hNi hMi hKi hr
       obtain ⟨pt, px, py, ph, pr, pb⟩ := p
       dsimp only at d0 d1 d2 d3 d4 d5 HSep
       have HSv : Hid (∃ sv, sepN q ⟨pt, px, py, ph, pr, pb⟩ S.lat S.vert = sv) := Lib.hid ⟨_, rfl⟩
       obtain ⟨sv, hsv⟩ := HSv.out
       rw [hsv] at HSep
       have HSV := Lib.hid hsv
       clear HSv hsv
       gi_upto_region 10 with (fail)
       obtain ⟨C9, hC9⟩ : ∃ C9, wr.heap.size = C9 := ⟨_, rfl⟩
       obtain ⟨W9, hW9⟩ : ∃ W9, wr.alloc (.cells #[.int .i64 pt, .int .i64 px, .int .i64 py, .int .i64 ph, .int .i64 pr, .int .i64 pb] 52) = W9 := ⟨_, rfl⟩
       have hB9 : Below wr.heap.size wr W9 := by rw [← hW9]; exact (Below.refl _ _).alloc (Nat.le_refl _) _
       have hn9 : NdAt C9 ⟨pt, px, py, ph, pr, pb⟩ W9 := by rw [← hW9, ← hC9]; exact NdAt.new ⟨pt, px, py, ph, pr, pb⟩ wr
       have hx9 : NdAt Bx q W9 := (show NdB Bx q W9 from (hB9.block Bx (by have := HBo.out.size; omega)).trans HNi.out).at_
       have hk9 : W9.cell? ⟨B0, 0, none⟩ = some (.pointer (some ⟨g, 0, none⟩)) := cell_of_row _ _ 0 _ _ _ ((hB9.block B0 (by have := HBo.out.size; omega)).trans HKi.out.p)
       have hm9 := HMi.out.below hB9
       have hg0 : W9.cell? ⟨g, 0, none⟩ = some (.int .i64 S.lat) := hm9.cell 0
       have hg1 : W9.cell? ⟨g, 1, none⟩ = some (.int .i64 S.vert) := hm9.cell 1
       obtain ⟨n0, n1, n2, n3, n4, n5⟩ := hn9
       obtain ⟨m0, m1, m2, m3, m4, m5⟩ := hx9
       dsimp only at n0 n1 n2 n3 n4 n5
       have HB9 := Lib.hid (bstep HBi.out hB9)
       rw [hW9, hC9]
       clear hW9 hC9 hm9 hB9 d0 d1 d2 d3 d4 d5 e3
       have k0 := cell_regrown n0
       have k1 := cell_regrown n1
       have k2 := cell_regrown n2
       have k3 := cell_regrown n3
       have k4 := cell_regrown n4
       have k5 := cell_regrown n5
       have j0 := cell_regrown m0
       have j1 := cell_regrown m1
       have j2 := cell_regrown m2
       have j3 := cell_regrown m3
       have j4 := cell_regrown m4
       have j5 := cell_regrown m5
       have q0 := cell_regrown hg0
       have q1 := cell_regrown hg1
       have q2 := cell_regrown hk9
       clear n0 n1 n2 n3 n4 n5 m0 m1 m2 m3 m4 m5 hg0 hg1 hk9
       refine round_quiet (by kernel_rfl) (by kernel_rfl) (by kernel_rfl) ?_
       repeat (go_big_quiet_step (first
        | (go_at_call 154; exact (HSep.out _).regrown_of)))
       refine wpQuiet_nil ?_
       intro wz hwz
       have hbz : Below W9.heap.size W9 wz := by obtain ⟨⟨dq, osq⟩, rfl⟩ := hwz; exact below_regrown _ _ _
       have HBz := Lib.hid (bstep HB9.out hbz)
       clear hbz hwz k0 k1 k2 k3 k4 k5 j0 j1 j2 j3 j4 j5 q0 q1 q2
       cases sv with
       | true =>
        gi_wp2
        go_roundw
        case rel => exact ⟨r + 1, by omega, by go_num, hid_step HGi (by rw [HPe.out]; exact HSV.out), HBz⟩
        case measure => simp [intOf]; omega
       | false =>
        have hbo : Below wo.heap.size wo wz := bstep HB5.out HBz.out
        have hrr := (hbo.block (B0 + 1 + 1) (by omega)).trans HKr.out.r
        have hcr : wz.cell? ⟨B0 + 1 + 1, 0, none⟩ = some (.bool false) := cell_of_row _ _ 0 _ _ _ hrr
        have hfr : wz.frozen? ⟨B0 + 1 + 1, 0, none⟩ = false := frozen_of_row _ _ _ _ _ hrr
        have HBo2 := Lib.hid hbo
        have HRR := Lib.hid hrr
        clear hbo hrr
        gi_wp2
        have hbW : Below W.heap.size W wz := bstep HB.out HBo2.out
        refine ⟨((keeps_below hbW).trans (KeepsOthers.setCell _ _ _)).from _, ⟨rfl, x, ?_⟩, ⟨4, heap_setCell_same _ _ _ _ _ _ HRR.out⟩, (HBW.out.trans (hbW.mono (by omega))).setCell (p := ⟨B0 + 1 + 1, 0, none⟩) (by show B0 ≤ B0 + 1 + 1; omega) _⟩
        rw [HQ.out, List.any_eq_true]
        refine ⟨f, ?_, ?_⟩
        ·rw [← HF.out, getElem!_pos c.fl j (by have := HFS.out; have := HLT.out; omega)]; exact List.getElem_mem _
        ·rw [HHit.out, List.any_eq_true]
         refine ⟨_, ?_, by rw [HSV.out]; rfl⟩
         rw [← HPe.out, getElem!_pos ns r (by rw [HMl.out]; omega)]
         exact List.getElem_mem _
      ·obtain rfl : r = m := by omega
       have hhit : hitsF S call q f = false := by
        rw [HHit.out, List.any_eq_false]
        intro p hp
        obtain ⟨k, hk, rfl⟩ := List.getElem_of_mem hp
        have := HGi.out k (by rw [← HMl.out]; exact hk)
        rw [getElem!_pos ns k hk] at this
        rw [this]; simp
       have HHt := Lib.hid hhit
       have HG2 : Hid (∀ k, k < j + 1 → hitsF S call q c.fl[k]! = false) := hid_step HG (by rw [HF.out]; exact HHt.out)
       have HBW2 : Hid (Below W.heap.size W wr) := Lib.hid (bstep HB.out (bstep HB5.out HBi.out))
       clear hhit
       gi_wp2
       go_roundw
       case rel => exact ⟨j + 1, by have := HLT.out; omega, by go_num, HG2, HBW2⟩
       case measure => have := HLT.out; simp [intOf]; omega
   ·obtain rfl : j = nf := by omega
    have hany : (c.fl.any fun f => hitsF S call q f) = false := by
     rw [List.any_eq_false]
     intro f hf
     obtain ⟨k, hk, rfl⟩ := List.getElem_of_mem hf
     have := HG.out k (by have := HFS.out; omega)
     rw [getElem!_pos c.fl k hk] at this
     rw [this]; simp
    have HA := Lib.hid hany
    clear hany
    gi_wp2
    refine ⟨(keeps_below HB.out).from _, HB.out.mono HI2.out.size, fun z hz => ?_, HI2.out.trans (HB.out.mono HI2.out.size)⟩
    rcases List.mem_append.1 hz with hz | hz
    ·exact HI1.out z hz
    ·rw [List.mem_singleton.1 hz, HQ.out]; exact HA.out
 case done =>
  rintro D ys W hD hys ⟨hi, hb⟩ hK
  have hbw : Below B0 w W := HBw1.out.trans (hb.mono (by have := HBw1.out.size; have := HB0.out; omega))
  have hcl : clashP S c.fl call l = false := by
   unfold clashP
   rw [List.any_eq_false]
   intro n hn
   rw [← hys] at hn
   obtain ⟨x, hx, rfl⟩ := List.mem_map.1 hn
   rw [hi x hx]; simp
  have hr := (HKB.out.below (by have := HBn.out; omega) hb).r
  have hcr : W.cell? ⟨B0 + 1 + 1, 0, none⟩ = some (.bool false) := cell_of_row _ _ 0 _ _ _ hr
  have hfr : W.frozen? ⟨B0 + 1 + 1, 0, none⟩ = false := frozen_of_row _ _ _ _ _ hr
  have HCl := Lib.hid hcl
  have HD := Lib.hid (And.intro hD (And.intro hK (And.intro hbw hr)))
  clear hD hK hbw hi hb hys hcl hr
  go_wp2
  obtain ⟨hD, hK, hbw, hr⟩ := HD.out
  refine ⟨by simp, .inl ⟨_, _, rfl, run_takeDeferred ((KeepsOthers.setCell _ _ _).same D _ hK rfl), ?_⟩⟩
  have hk2 := (KeepsOthers.setCell W ⟨B0 + 1 + 1, 0, none⟩ (.bool false)).same D _ hK rfl
  have hc2 := cell_kept (World.cell?_setCell_same' W ⟨B0 + 1 + 1, 0, none⟩ (.bool false) (by rw [hcr]; rfl)) (grownBy_putObj' _ D (.deferred none)) (fun r e => by cases e; exact ⟨_, hk2, rfl⟩)
  refine ⟨.bool false, by simp [results, Tryz.results105, go_sem, hc2], by rw [HCl.out], ?_⟩
  rw [HB0.out]
  exact FIN.out D _ (hbw.setCell (p := ⟨B0 + 1 + 1, 0, none⟩) (by show B0 ≤ B0 + 1 + 1; omega) _) (by have := HBw1.out.size; have := HB0.out; omega) ⟨_, hk2⟩
 case stop =>
  rintro D k pre W hD _ ⟨⟨rfl, x, hx⟩, ⟨t, ht⟩, hb⟩ hK
  have hcl : clashP S c.fl call l = true := by
   unfold clashP
   rw [List.any_eq_true]
   exact ⟨x.1, x.2, hx⟩
  have hcr : W.cell? ⟨B0 + 1 + 1, 0, none⟩ = some (.bool true) := cell_of_row _ _ 0 _ _ _ ht
  have HCl := Lib.hid hcl
  have HD := Lib.hid (And.intro hD (And.intro hK (And.intro hb ht)))
  clear hcl hD hK hb ht
  gi_wp2
  obtain ⟨hD, hK, hb, ht⟩ := HD.out
  refine ⟨by simp, .inl ⟨_, _, rfl, run_takeDeferred hK, ?_⟩⟩
  have hc2 := cell_kept hcr (grownBy_putObj' _ D (.deferred none)) (fun r e => by cases e; exact ⟨_, hK, rfl⟩)
  refine ⟨.bool true, by simp [results, Tryz.results105, go_sem, hc2], by rw [HCl.out], ?_⟩
  rw [HB0.out]
  exact FIN.out D _ hb (by have := HBw1.out.size; have := HB0.out; omega) ⟨_, hK⟩
end
section
open Go.RowKit
theorem end_call (A : Option Addr) (l : List Ow) (n c : Nat) (s b : ByteArray) (w : World) (hA : OwA A n l w) (hok : OwOk l) :
  (isO l s = false → Calls Tryz.prog 115 #[.slice A n c, .string s, .string b] w (NoP 8 w)) ∧ (isO l s = true → (l[lowO l s]!).owner ≠ b → Calls Tryz.prog 115 #[.slice A n c, .string s, .string b] w (NoP 16 w)) ∧
  (isO l s = true → (l[lowO l s]!).owner = b → Calls Tryz.prog 115 #[.slice A n c, .string s, .string b] w (YesP (delL l (lowO l s)) w)) := by
 refine ⟨fun h => End_none A l n c s b w hA hok h, fun h h2 => ?_, fun h h2 => ?_⟩
 ·have e : (chEnd b l[lowO l s]!).2 = 16 := by unfold chEnd; rw [if_neg h2]
  have := End_bad A l n c s b w hA hok h (by rw [e]; decide)
  rw [e] at this; exact this
 ·have e : (chEnd b l[lowO l s]!).2 = 0 := by unfold chEnd; rw [if_pos h2]
  have e2 : (chEnd b l[lowO l s]!).1.call = .empty := by unfold chEnd; rw [if_pos h2]
  exact End_ok A l n c s b w hA hok h e e2
theorem FlM.lastLeg {F : Nat → Prop} {x : Fm} {ts : List Hd} {f : Fl} {w : World} (h : FlM F x ts f w) (hok : FlOk f) : ∃ (bl lm : Nat) (hd : Hd), x.la = some ⟨bl, 0, none⟩ ∧ x.ln = lm + 1 ∧ lm ≤ 5 ∧ bl < w.heap.size ∧ w.cell? ⟨bl, lm, none⟩ = some (.slice hd.A hd.n hd.c) ∧ TuA hd.A hd.n f.legs[f.legs.length - 1]! w ∧ ts[f.legs.length - 1]! = hd := by
 have hln := h.ln
 have h0 := hok.n0
 have h6 := hok.n1
 have hl := h.legs.1
 rw [← hln] at hl
 obtain ⟨bl, cap, hv, _, hb⟩ := hl.form (by omega)
 have hA : x.la = some ⟨bl, 0, none⟩ := by injection hv
 rw [hA] at hl
 refine ⟨bl, x.ln - 1, ts[f.legs.length - 1]!, hA, by omega, by omega, hb, ?_, (h.leg _ (by omega)).tua, rfl⟩
 have htl := h.tl
 rw [hl.cellAt (x.ln - 1) (by omega)]
 have := rowsV_at hdV_len ts (x.ln - 1) (by omega) 0 (by omega)
 rw [Nat.mul_one, Nat.add_zero] at this
 have e : ts[x.ln - 1]'(by omega) = ts[f.legs.length - 1]! := by
  rw [getElem!_pos ts _ (by omega)]
  congr 1
  omega
 rw [this, e]
 rfl
set_option maxRecDepth 100000 in
set_option maxHeartbeats 16000000 in
theorem end_any {F : Nat → Prop} {g : Nat} {S : Su} {c : Ce} {y : Lay} {w : World} (h : CeM F g S c y w) (hok : CeOk c) (x : Inp) (A : Option Addr) (n cA : Nat) :
  Calls Tryz.prog 69 #[.pointer (some ⟨g, 0, none⟩), inpV x A n cA] w (MethP F g S w (if endE c x = 0 then (endC c x, 0) else (c, endE c x))) := by
 obtain ⟨V, hV⟩ : ∃ V, w.alloc (inpO x A n cA) = V := ⟨_, rfl⟩
 have hbV : Below w.heap.size w V := by rw [← hV]; exact (Below.refl _ _).alloc (Nat.le_refl _) _
 have hzV : V.heap.size = w.heap.size + 1 := by rw [← hV, size_al]
 have hgB : V.heap[w.heap.size]? = some (inpO x A n cA) := by rw [← hV]; exact heap_alloc_new _ _
 have hMV := h.below hbV
 have HV := Lib.hid hV
 have HBV := Lib.hid hbV
 have HZV := Lib.hid hzV
 have HFb0 := Lib.hid h.bd
 have HBx := Lib.hid (fun (W : World) (hb : Below V.heap.size V W) => (show W.heap[w.heap.size]? = some (inpO x A n cA) from (hb.block _ (by omega)).trans hgB))
 have HM := Lib.hid (fun (W : World) (hb : Below V.heap.size V W) => hMV.below hb)
 have HCa := Lib.hid (fun (W : World) (hb : Below V.heap.size V W) => end_call y.oh.A c.ow y.oh.n y.oh.c x.call x.by_ W (hMV.below hb).owa hok.ow)
 have HCe := Lib.hid (fun (W : World) (hb : Below V.heap.size V W) => (show W.cell? ⟨g, 20, none⟩ = some (.slice y.oh.A y.oh.n y.oh.c) ∧ W.cell? ⟨g, 19, none⟩ = some (.slice y.fh.A y.fh.n y.fh.c) from ⟨(hMV.below hb).cell 20, (hMV.below hb).cell 19⟩))
 obtain ⟨oA, hoA⟩ : ∃ oA, y.oh.A = oA := ⟨_, rfl⟩
 obtain ⟨on, hon⟩ : ∃ on, y.oh.n = on := ⟨_, rfl⟩
 obtain ⟨oc, hoc⟩ : ∃ oc, y.oh.c = oc := ⟨_, rfl⟩
 rw [hoA, hon, hoc] at HCa HCe
 unfold inpV
 unfold inpO at hgB hV HV HBx
 have HS := Lib.hid (fun (W : World) (hb : Below V.heap.size V W) => (show Below V.heap.size V W ∧ W.cell? ⟨g, 20, none⟩ = some (.slice oA on oc) ∧ W.cell? ⟨w.heap.size, 2, none⟩ = some (.string x.call) ∧ W.cell? ⟨w.heap.size, 3, none⟩ = some (.string x.by_) from ⟨hb, (HCe.out W hb).1, cell_of_row _ _ 2 _ _ _ (HBx.out W hb), cell_of_row _ _ 3 _ _ _ (HBx.out W hb)⟩))
 clear hoA hon hoc
 have no : ∀ k : Int, k ≠ 0 → (∀ W, Below V.heap.size V W → Calls Tryz.prog 115 #[.slice oA on oc, .string x.call, .string x.by_] W (NoP k W)) → Calls Tryz.prog 69 #[.pointer (some ⟨g, 0, none⟩), .agg #[.int .i64 x.kind, .int .i64 x.time, .string x.call, .string x.by_, .string x.to_, .slice A n cA, .int .i64 x.wake, .int .i64 x.slot, .bool x.lands]] w (MethP F g S w (c, k)) := by
  intro k hk hN
  have HN := Lib.hid hN
  unfold NoP at HN
  have hke : (k == 0) = false := by rw [beq_eq_false_iff_ne]; exact hk
  have hke2 : (k != 0) = true := by simpa using hk
  obtain ⟨_, c20, x2, x3⟩ := HS.out V (Below.refl _ _)
  clear hN hMV h hok hk hgB hbV hzV HCa
  go_enter Tryz.func69, Tryz.ntmps69
  go_upto_region 1 with (fail)
  have r20 := cell_regrown c20
  have r2 := cell_regrown x2
  have r3 := cell_regrown x3
  clear c20 x2 x3
  refine wp_region_quiet_below (by kernel_rfl) (by kernel_rfl) ?_
  repeat (go_big_quiet_step ((go_at_call 115; exact (HN.out _ (below_regrown V _ _)).regrown_of)))
  refine wpQuiet_nil ?_
  intro wz hwz
  have hbz : Below V.heap.size V wz := by obtain ⟨⟨dq, osq⟩, rfl⟩ := hwz; exact below_regrown _ _ _
  have hMz := Lib.hid (HM.out wz hbz)
  have HBz := Lib.hid hbz
  clear hwz hbz r20 r2 r3
  go_wp2_with fail
  go_ret
  exact ⟨rfl, F, hMz.out.at_, Off.of_below (HBV.out.trans (HBz.out.mono HBV.out.size)), fun _ h => .inl h⟩
 by_cases h1 : isO c.ow x.call = false
 ·have HE : endE c x = 8 := by unfold endE; rw [if_pos h1]
  rw [HE, if_neg (by decide)]
  exact no 8 (by decide) (fun W hb => (HCa.out W hb).1 h1)
 have h1' : isO c.ow x.call = true := by simpa using h1
 by_cases h2 : (c.ow[lowO c.ow x.call]!).owner ≠ x.by_
 ·have HE : endE c x = 16 := by unfold endE; rw [if_neg h1, if_pos h2]
  rw [HE, if_neg (by decide)]
  exact no 16 (by decide) (fun W hb => (HCa.out W hb).2.1 h1' h2)
 have HY := Lib.hid (fun W hb => (HCa.out W hb).2.2 h1' (by simpa using h2))
 unfold YesP at HY
 have HEq : Hid (endE c x = if 0 < (flOf c x).next.length ∨ x.time ≤ lstT (flOf c x).legs[(flOf c x).legs.length - 1]! then 11 else 0) := Lib.hid (by unfold endE; rw [if_neg h1, if_neg h2])
 obtain ⟨p1, p2, p3⟩ := hMV.at_low hok x.call h1'
 obtain ⟨b, hA, hFb, hbl, hbc⟩ := hMV.fblk (by omega)
 have HFok := Lib.hid (flOf_mem hok h1').2.2
 have HFo : Hid (flOf c x = c.fl[lowO c.ow x.call]!) := Lib.hid rfl
 have HFind := Lib.hid (fun (W : World) (hb : Below V.heap.size V W) => find_any (hMV.below hb) hok x.call)
 unfold FindP at HFind
 have HFc := Lib.hid (fun (W : World) (hb : Below V.heap.size V W) (q : Nat) (hq : q < 8) => ((hMV.below hb).fcell hA (lowO c.ow x.call) p1 q hq).1)
 have HFl := Lib.hid (fun (W : World) (hb : Below V.heap.size V W) => (hMV.below hb).fl _ p1)
 have HDe := Lib.hid (fun (W : World) (hb : Below V.heap.size V W) => DeleteFl_at 0 b c.fl.length y.fh.c (lowO c.ow x.call) (lowO c.ow x.call + 1) ((lowO c.ow x.call : Nat) : Int) (((lowO c.ow x.call : Nat) : Int) + 1) rfl (by omega) (rowsV fmV y.fs) W ((hMV.below hb).fown' hA) (rowsV_one (fun z u hu => by
  simp only [fmV, List.mem_cons, List.not_mem_nil, or_false] at hu
  rcases hu with rfl | rfl | rfl | rfl | rfl | rfl | rfl | rfl <;> rfl) _) (c.fl.length - (lowO c.ow x.call + 1)) (c.fl.length - 1) (by omega) (by omega) (by omega))
 have HFN := Lib.hid (fun (W w5 : World) (hb : Below V.heap.size V W) (A1 : Option Addr) (base co : Nat) (hbase : w.heap.size ≤ base) => end_fin (w := w) (W4 := W) (w5 := w5) x hok (hMV.below hb) HFb0.out (HBV.out.trans (hb.mono HBV.out.size)) (lowO c.ow x.call) p1 rfl hA A1 base co hbase)
 rw [h1'] at HFind
 rw [hA, p3] at HCe
 obtain ⟨p, hp⟩ : ∃ p, lowO c.ow x.call = p := ⟨_, rfl⟩
 rw [hp] at HFind HFc HFl HFo HY HDe HFN p1
 obtain ⟨xf, hxf⟩ : ∃ xf, y.fs[p]! = xf := ⟨_, rfl⟩
 rw [hxf] at HFc HFl
 obtain ⟨f, hf⟩ : ∃ f, flOf c x = f := ⟨_, rfl⟩
 rw [hf] at HFok HEq HFo
 rw [← HFo.out] at HFl
 obtain ⟨bl, lm, hd, la1, ln1, lm5, bl1, _, _, hts⟩ := (HFl.out V (Below.refl _ _)).lastLeg HFok.out
 have hblN : ∀ W, Below V.heap.size V W → W.cell? ⟨bl, lm, none⟩ = some (.slice hd.A hd.n hd.c) ∧ TuA hd.A hd.n f.legs[f.legs.length - 1]! W := fun W hb => by
  obtain ⟨bl', lm', hd', a1, a2, _, _, a3, a4, a5⟩ := (HFl.out W hb).lastLeg HFok.out
  rw [la1] at a1; cases a1
  have : lm' = lm := by omega
  subst this
  rw [hts] at a5; subst a5
  exact ⟨a3, a4⟩
 have HLg := Lib.hid hblN
 have HLs := Lib.hid (fun (W : World) (hb : Below V.heap.size V W) => (last_any hd.A hd.n hd.c f.legs[f.legs.length - 1]! W (hblN W hb).2 (by rw [← (hblN W hb).2.1]; exact (HFok.out.legs _ (by have := HFok.out.n0; omega)).n0) (by rw [← (hblN W hb).2.1]; exact (HFok.out.legs _ (by have := HFok.out.n0; omega)).n1)).mono fun e W2 hh => (show e = .returned (.int .i64 (lstT f.legs[f.legs.length - 1]!)) ∧ Below W.heap.size W W2 from ⟨hh.1, by rw [hh.2]; exact Below.refl _ _⟩))
 have hnx : xf.nn = f.next.length := (HFl.out V (Below.refl _ _)).next.1
 obtain ⟨lt, hlt⟩ : ∃ lt, lstT f.legs[f.legs.length - 1]! = lt := ⟨_, rfl⟩
 rw [hlt] at HLs HEq
 rw [← hnx] at HEq
 obtain ⟨fcall, fwake, fslot, flands, la, ln, lc, na, nn, nc, fland, nland⟩ := xf
 dsimp only at la1 ln1 HEq
 subst la1 ln1
 obtain ⟨nf, hnf⟩ : ∃ nf, c.fl.length = nf := ⟨_, rfl⟩
 rw [hnf] at HDe HCe HFN p1 p2
 have l0 : (0 : Int) ≤ (p : Int) := by omega
 have l1 : (p : Int) < (nf : Int) := by omega
 have hpw : IntKind.i64.wrap ((p : Int) + 1) = (p : Int) + 1 := IntWalk.i64_in _ (by omega)
 have hlw : IntKind.i64.wrap ((lm : Int) + 1 - 1) = (lm : Int) := by rw [IntWalk.i64_in _ (by omega)]; omega
 have lm0 : (0 : Int) ≤ (lm : Int) := by omega
 have lm1 : (lm : Int) < ((lm + 1 : Nat) : Int) := by omega
 have HBl := Lib.hid (show b < V.heap.size from hbl)
 have HVf := Lib.hid (fun (W : World) (hb : Below V.heap.size V W) => (show (W.cell? ⟨b, p * 8, none⟩ = some (.string fcall) ∧ W.cell? ⟨b, p * 8 + 1, none⟩ = some (.int .i64 fwake) ∧ W.cell? ⟨b, p * 8 + 2, none⟩ = some (.int .i64 fslot) ∧ W.cell? ⟨b, p * 8 + 3, none⟩ = some (.bool flands)) ∧ W.cell? ⟨b, p * 8 + 4, none⟩ = some (.slice (some ⟨bl, 0, none⟩) (lm + 1) lc) ∧ W.cell? ⟨b, p * 8 + 5, none⟩ = some (.slice na nn nc) ∧ W.cell? ⟨b, p * 8 + 6, none⟩ = some (.int .i64 fland) ∧ W.cell? ⟨b, p * 8 + 7, none⟩ = some (.int .i64 nland) from
  ⟨⟨HFc.out W hb 0 (by decide), HFc.out W hb 1 (by decide), HFc.out W hb 2 (by decide), HFc.out W hb 3 (by decide)⟩, HFc.out W hb 4 (by decide), HFc.out W hb 5 (by decide), HFc.out W hb 6 (by decide), HFc.out W hb 7 (by decide)⟩))
 have hA2 := Lib.hid hA
 have HNf := Lib.hid hnf
 clear no HCa hMV h hok h1 h1' h2 hgB hbV hzV p2 p3 hbl hbc hFb hA hp hxf hf hts hblN hnx hlt hnf bl1
 by_cases hc1 : 0 < nn
 ·have e1 : decide ((0 : Int) < (nn : Int)) = true := decide_eq_true (by omega)
  have e1n : decide (0 < nn) = true := decide_eq_true hc1
  rw [if_pos (.inl hc1)] at HEq
  rw [HEq.out, if_neg (by decide)]
  clear hc1
  go_enter Tryz.func69, Tryz.ntmps69
  go_upto_region 1 with (fail)
  go_region_held3 (fun W => Below V.heap.size V W ∧ W.cell? ⟨g, 20, none⟩ = some (.slice oA on oc) ∧ W.cell? ⟨w.heap.size, 2, none⟩ = some (.string x.call) ∧ W.cell? ⟨w.heap.size, 3, none⟩ = some (.string x.by_)) (first | assumption | exact (Below.refl _ _).drew | exact HS.out _ (Below.refl _ _).drew | exact HS.out _ (by assumption)) ((go_at_call 115; go_loud (refine (HY.out _ (by first | assumption | exact (Below.refl _ _).drew)).mono ?_; rintro e w1 ⟨A1, c1, rfl, ho, hb1⟩; have hb2 : Below V.heap.size V w1 := ((Below.refl V.heap.size V).drew).trans hb1; have HO := Lib.hid ho; clear ho)))
  have HB1 := Lib.hid hb2
  have x2 := (HS.out w1 HB1.out).2.2.1
  clear hb1 hb2
  go_upto_region 6 with ((go_at_call 107; go_loud (refine (HFind.out w1 HB1.out).mono ?_; rintro e w2 ⟨rfl, hb3⟩; have hb4 : Below V.heap.size V w2 := HB1.out.trans (hb3.mono HB1.out.size); have HB2 := Lib.hid hb4; have HB12 := Lib.hid hb3; obtain ⟨⟨d0, d1, d2, d3⟩, d4, d5, d6, d7⟩ := HVf.out w2 hb4; have c19 := (HCe.out w2 hb4).2; clear hb3 hb4)))
  obtain ⟨T9, hT9⟩ : ∃ T9, w2.heap.size = T9 := ⟨_, rfl⟩
  obtain ⟨W5, hW5⟩ : ∃ W5, w2.alloc (.cells #[.string fcall, .int .i64 fwake, .int .i64 fslot, .bool flands, .slice (some ⟨bl, 0, none⟩) (lm + 1) lc, .slice na nn nc, .int .i64 fland, .int .i64 nland] 46) = W5 := ⟨_, rfl⟩
  have hg9 : W5.heap[T9]? = some (.cells #[.string fcall, .int .i64 fwake, .int .i64 fslot, .bool flands, .slice (some ⟨bl, 0, none⟩) (lm + 1) lc, .slice na nn nc, .int .i64 fland, .int .i64 nland] 46 (0, 0)) := by rw [← hW5, ← hT9]; exact heap_alloc_new _ _
  have hb25 : Below w2.heap.size w2 W5 := by rw [← hW5]; exact (Below.refl _ _).alloc (Nat.le_refl _) _
  have HB5 : Hid (Below V.heap.size V W5) := Lib.hid (HB2.out.trans (hb25.mono HB2.out.size))
  have HB15 : Hid (Below w1.heap.size w1 W5) := Lib.hid (bstep HB12.out hb25)
  have t4 : W5.cell? ⟨T9, 4, none⟩ = some (.slice (some ⟨bl, 0, none⟩) (lm + 1) lc) := cell_of_row _ _ 4 _ _ _ hg9
  have t5 : W5.cell? ⟨T9, 5, none⟩ = some (.slice na nn nc) := cell_of_row _ _ 5 _ _ _ hg9
  have tl : W5.cell? ⟨bl, lm, none⟩ = some (.slice hd.A hd.n hd.c) := (HLg.out W5 HB5.out).1
  have tb : W5.cell? ⟨w.heap.size, 1, none⟩ = some (.int .i64 x.time) := cell_of_row _ _ 1 _ _ _ (HBx.out W5 HB5.out)
  rw [hW5, hT9]
  have q4 := cell_regrown t4
  have q5 := cell_regrown t5
  have ql := cell_regrown tl
  have qb := cell_regrown tb
  clear hW5 hT9 hg9 hb25 t4 t5 tl tb d0 d1 d2 d3 d4 d5 d6 d7 x2 c19
  refine wp_region_quiet_below (by kernel_rfl) (by kernel_rfl) ?_
  repeat (go_big_quiet_step ((go_at_call 104; exact (HLs.out _ (HB5.out.trans ((below_regrown W5 _ _).mono HB5.out.size))).regrown_of)))
  refine wpQuiet_nil ?_
  intro W6 hwz
  have hbz : Below W5.heap.size W5 W6 := by obtain ⟨⟨dq, osq⟩, rfl⟩ := hwz; exact below_regrown _ _ _
  have HB6 : Hid (Below V.heap.size V W6) := Lib.hid (HB5.out.trans (hbz.mono HB5.out.size))
  have HB16 : Hid (Below w1.heap.size w1 W6) := Lib.hid (bstep HB15.out hbz)
  clear hwz hbz q4 q5 ql qb
  go_wp2_with fail
  go_ret
  exact ⟨rfl, F, (HM.out _ HB6.out).at_, Off.of_below (HBV.out.trans (HB6.out.mono HBV.out.size)), fun _ h => .inl h⟩
 have e1 : decide ((0 : Int) < (nn : Int)) = false := decide_eq_false (by omega)
 have e1n : decide (0 < nn) = false := decide_eq_false hc1
 by_cases hc2 : x.time ≤ lt
 ·have e2 : decide (x.time ≤ lt) = true := decide_eq_true hc2
  have e3 : decide (lt < x.time) = false := decide_eq_false (by omega)
  rw [if_pos (.inr hc2)] at HEq
  rw [HEq.out, if_neg (by decide)]
  clear hc1 hc2
  go_enter Tryz.func69, Tryz.ntmps69
  go_upto_region 1 with (fail)
  go_region_held3 (fun W => Below V.heap.size V W ∧ W.cell? ⟨g, 20, none⟩ = some (.slice oA on oc) ∧ W.cell? ⟨w.heap.size, 2, none⟩ = some (.string x.call) ∧ W.cell? ⟨w.heap.size, 3, none⟩ = some (.string x.by_)) (first | assumption | exact (Below.refl _ _).drew | exact HS.out _ (Below.refl _ _).drew | exact HS.out _ (by assumption)) ((go_at_call 115; go_loud (refine (HY.out _ (by first | assumption | exact (Below.refl _ _).drew)).mono ?_; rintro e w1 ⟨A1, c1, rfl, ho, hb1⟩; have hb2 : Below V.heap.size V w1 := ((Below.refl V.heap.size V).drew).trans hb1; have HO := Lib.hid ho; clear ho)))
  have HB1 := Lib.hid hb2
  have x2 := (HS.out w1 HB1.out).2.2.1
  clear hb1 hb2
  go_upto_region 6 with ((go_at_call 107; go_loud (refine (HFind.out w1 HB1.out).mono ?_; rintro e w2 ⟨rfl, hb3⟩; have hb4 : Below V.heap.size V w2 := HB1.out.trans (hb3.mono HB1.out.size); have HB2 := Lib.hid hb4; have HB12 := Lib.hid hb3; obtain ⟨⟨d0, d1, d2, d3⟩, d4, d5, d6, d7⟩ := HVf.out w2 hb4; have c19 := (HCe.out w2 hb4).2; clear hb3 hb4)))
  obtain ⟨T9, hT9⟩ : ∃ T9, w2.heap.size = T9 := ⟨_, rfl⟩
  obtain ⟨W5, hW5⟩ : ∃ W5, w2.alloc (.cells #[.string fcall, .int .i64 fwake, .int .i64 fslot, .bool flands, .slice (some ⟨bl, 0, none⟩) (lm + 1) lc, .slice na nn nc, .int .i64 fland, .int .i64 nland] 46) = W5 := ⟨_, rfl⟩
  have hg9 : W5.heap[T9]? = some (.cells #[.string fcall, .int .i64 fwake, .int .i64 fslot, .bool flands, .slice (some ⟨bl, 0, none⟩) (lm + 1) lc, .slice na nn nc, .int .i64 fland, .int .i64 nland] 46 (0, 0)) := by rw [← hW5, ← hT9]; exact heap_alloc_new _ _
  have hb25 : Below w2.heap.size w2 W5 := by rw [← hW5]; exact (Below.refl _ _).alloc (Nat.le_refl _) _
  have HB5 : Hid (Below V.heap.size V W5) := Lib.hid (HB2.out.trans (hb25.mono HB2.out.size))
  have HB15 : Hid (Below w1.heap.size w1 W5) := Lib.hid (bstep HB12.out hb25)
  have t4 : W5.cell? ⟨T9, 4, none⟩ = some (.slice (some ⟨bl, 0, none⟩) (lm + 1) lc) := cell_of_row _ _ 4 _ _ _ hg9
  have t5 : W5.cell? ⟨T9, 5, none⟩ = some (.slice na nn nc) := cell_of_row _ _ 5 _ _ _ hg9
  have tl : W5.cell? ⟨bl, lm, none⟩ = some (.slice hd.A hd.n hd.c) := (HLg.out W5 HB5.out).1
  have tb : W5.cell? ⟨w.heap.size, 1, none⟩ = some (.int .i64 x.time) := cell_of_row _ _ 1 _ _ _ (HBx.out W5 HB5.out)
  rw [hW5, hT9]
  have q4 := cell_regrown t4
  have q5 := cell_regrown t5
  have ql := cell_regrown tl
  have qb := cell_regrown tb
  clear hW5 hT9 hg9 hb25 t4 t5 tl tb d0 d1 d2 d3 d4 d5 d6 d7 x2 c19
  refine wp_region_quiet_below (by kernel_rfl) (by kernel_rfl) ?_
  repeat (go_big_quiet_step ((go_at_call 104; exact (HLs.out _ (HB5.out.trans ((below_regrown W5 _ _).mono HB5.out.size))).regrown_of)))
  refine wpQuiet_nil ?_
  intro W6 hwz
  have hbz : Below W5.heap.size W5 W6 := by obtain ⟨⟨dq, osq⟩, rfl⟩ := hwz; exact below_regrown _ _ _
  have HB6 : Hid (Below V.heap.size V W6) := Lib.hid (HB5.out.trans (hbz.mono HB5.out.size))
  have HB16 : Hid (Below w1.heap.size w1 W6) := Lib.hid (bstep HB15.out hbz)
  clear hwz hbz q4 q5 ql qb
  go_wp2_with fail
  go_ret
  exact ⟨rfl, F, (HM.out _ HB6.out).at_, Off.of_below (HBV.out.trans (HB6.out.mono HBV.out.size)), fun _ h => .inl h⟩
 have e2 : decide (x.time ≤ lt) = false := decide_eq_false hc2
 have e3 : decide (lt < x.time) = true := decide_eq_true (by omega)
 rw [if_neg (fun h => h.elim hc1 hc2)] at HEq
 rw [HEq.out, if_pos rfl]
 clear hc1 hc2
 go_enter Tryz.func69, Tryz.ntmps69
 go_upto_region 1 with (fail)
 go_region_held3 (fun W => Below V.heap.size V W ∧ W.cell? ⟨g, 20, none⟩ = some (.slice oA on oc) ∧ W.cell? ⟨w.heap.size, 2, none⟩ = some (.string x.call) ∧ W.cell? ⟨w.heap.size, 3, none⟩ = some (.string x.by_)) (first | assumption | exact (Below.refl _ _).drew | exact HS.out _ (Below.refl _ _).drew | exact HS.out _ (by assumption)) ((go_at_call 115; go_loud (refine (HY.out _ (by first | assumption | exact (Below.refl _ _).drew)).mono ?_; rintro e w1 ⟨A1, c1, rfl, ho, hb1⟩; have hb2 : Below V.heap.size V w1 := ((Below.refl V.heap.size V).drew).trans hb1; have HO := Lib.hid ho; clear ho)))
 have HB1 := Lib.hid hb2
 have x2 := (HS.out w1 HB1.out).2.2.1
 clear hb1 hb2
 go_upto_region 6 with ((go_at_call 107; go_loud (refine (HFind.out w1 HB1.out).mono ?_; rintro e w2 ⟨rfl, hb3⟩; have hb4 : Below V.heap.size V w2 := HB1.out.trans (hb3.mono HB1.out.size); have HB2 := Lib.hid hb4; have HB12 := Lib.hid hb3; obtain ⟨⟨d0, d1, d2, d3⟩, d4, d5, d6, d7⟩ := HVf.out w2 hb4; have c19 := (HCe.out w2 hb4).2; clear hb3 hb4)))
 obtain ⟨T9, hT9⟩ : ∃ T9, w2.heap.size = T9 := ⟨_, rfl⟩
 obtain ⟨W5, hW5⟩ : ∃ W5, w2.alloc (.cells #[.string fcall, .int .i64 fwake, .int .i64 fslot, .bool flands, .slice (some ⟨bl, 0, none⟩) (lm + 1) lc, .slice na nn nc, .int .i64 fland, .int .i64 nland] 46) = W5 := ⟨_, rfl⟩
 have hg9 : W5.heap[T9]? = some (.cells #[.string fcall, .int .i64 fwake, .int .i64 fslot, .bool flands, .slice (some ⟨bl, 0, none⟩) (lm + 1) lc, .slice na nn nc, .int .i64 fland, .int .i64 nland] 46 (0, 0)) := by rw [← hW5, ← hT9]; exact heap_alloc_new _ _
 have hb25 : Below w2.heap.size w2 W5 := by rw [← hW5]; exact (Below.refl _ _).alloc (Nat.le_refl _) _
 have HB5 : Hid (Below V.heap.size V W5) := Lib.hid (HB2.out.trans (hb25.mono HB2.out.size))
 have HB15 : Hid (Below w1.heap.size w1 W5) := Lib.hid (bstep HB12.out hb25)
 have t4 : W5.cell? ⟨T9, 4, none⟩ = some (.slice (some ⟨bl, 0, none⟩) (lm + 1) lc) := cell_of_row _ _ 4 _ _ _ hg9
 have t5 : W5.cell? ⟨T9, 5, none⟩ = some (.slice na nn nc) := cell_of_row _ _ 5 _ _ _ hg9
 have tl : W5.cell? ⟨bl, lm, none⟩ = some (.slice hd.A hd.n hd.c) := (HLg.out W5 HB5.out).1
 have tb : W5.cell? ⟨w.heap.size, 1, none⟩ = some (.int .i64 x.time) := cell_of_row _ _ 1 _ _ _ (HBx.out W5 HB5.out)
 rw [hW5, hT9]
 have q4 := cell_regrown t4
 have q5 := cell_regrown t5
 have ql := cell_regrown tl
 have qb := cell_regrown tb
 clear hW5 hT9 hg9 hb25 t4 t5 tl tb d0 d1 d2 d3 d4 d5 d6 d7 x2 c19
 refine wp_region_quiet_below (by kernel_rfl) (by kernel_rfl) ?_
 repeat (go_big_quiet_step ((go_at_call 104; exact (HLs.out _ (HB5.out.trans ((below_regrown W5 _ _).mono HB5.out.size))).regrown_of)))
 refine wpQuiet_nil ?_
 intro W6 hwz
 have hbz : Below W5.heap.size W5 W6 := by obtain ⟨⟨dq, osq⟩, rfl⟩ := hwz; exact below_regrown _ _ _
 have HB6 : Hid (Below V.heap.size V W6) := Lib.hid (HB5.out.trans (hbz.mono HB5.out.size))
 have HB16 : Hid (Below w1.heap.size w1 W6) := Lib.hid (bstep HB15.out hbz)
 clear hwz hbz q4 q5 ql qb
 have c19 := (HCe.out W6 HB6.out).2
 have g19 := (HM.out W6 HB6.out).frozen 19
 have gl6 : g < W6.heap.size := (HM.out W6 HB6.out).bd g (HM.out W6 HB6.out).fg
 have HNb : Hid (g ≠ b) := Lib.hid (by
  obtain ⟨b', hA', _, _, cur, hbc⟩ := (HM.out W6 HB6.out).fblk (by rw [HNf.out]; omega)
  rw [hA2.out] at hA'; cases hA'
  exact (HM.out W6 HB6.out).gne hbc)
 go_wp2_with ((go_at_call 116; go_loud (refine (HDe.out W6 HB6.out).mono ?_; rintro e w7 ⟨rfl, hrow7, hg7⟩; have hgg : w7.heap[g]? = W6.heap[g]? := hg7.block g gl6 (fun e => HNb.out (by cases e; rfl)); have c19' := (World.cell?_of_block (a := ⟨g, 19, none⟩) hgg).trans c19; have f19' := (World.frozen?_of_block (a := ⟨g, 19, none⟩) hgg).trans g19; have c20' := (World.cell?_of_block (a := ⟨g, 20, none⟩) hgg).trans (HCe.out W6 HB6.out).1; have f20' := (World.frozen?_of_block (a := ⟨g, 20, none⟩) hgg).trans ((HM.out W6 HB6.out).frozen 20); have HR7 := Lib.hid hrow7; have HG7 := Lib.hid hg7; clear hrow7 hg7)))
 go_ret
 exact HFN.out W6 w7 HB6.out A1 V.heap.size c1 (by have := HZV.out; omega) (own_below (own_mono HO.out (Nat.le_refl _)) HB16.out (Nat.le_refl _)) HG7.out HR7.out
end
end Go.Proofs.YtaebebpldkciiaaGreatDoor
