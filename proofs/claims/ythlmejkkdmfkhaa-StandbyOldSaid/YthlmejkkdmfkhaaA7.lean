/- Package standby: Deliver of an entry. -/
import Derived.Test.YthlmejkkdmfkhaaA6
import Derived.Deep.RegionLaw
namespace Go.Proofs.Ythlmejkkdmfkhaa
open Go.RowKit

section
variable {g : Nat} {p : Pr} {vp vs vw : Value} {w : World}
/-- One message that lies in a block. -/
theorem send_one (h : PairAt g p vp vs vw w) (m1 m2 : Int) (m3 : Bool) (m4 : ByteArray) (b : Nat) (hb : w.heap[b]? = some (.cells #[.int .i64 m1, .int .i64 m2, .bool m3, .string m4] 46 (0, 0))) (hn : p.ws.length ≤ 1000) :
    Calls Try.prog 33 #[.pointer (some ⟨g, 0, none⟩), .slice (some ⟨b, 0, none⟩) 1 1] w (Pp g (Own g vp vs vw) (p.push [⟨m1, m2, m3, m4⟩]) (.returned (.int .i64 (p.pushE [⟨m1, m2, m3, m4⟩]))) w) :=
  send_any h [⟨m1, m2, m3, m4⟩] (some ⟨b, 0, none⟩) 1 (fun _ => ⟨b, 0, rfl, (Array.getElem?_eq_some_iff.1 hb).1, fun i hi j u hu => by
    have hi : i < 1 := hi
    obtain rfl : i = 0 := by omega
    rw [cell_of_row w b _ _ 46 (0, 0) hb, ← Array.getElem?_toList]
    simpa [rowM, msgV] using hu⟩) (fun h => by cases h) hn (by simp)

/-- A text, at a step of a region that draws its order. -/
theorem step_append_str {P : Program} {ops : Array Oper} {o : Oper} {a : Act} {K : Act → World → Prop} {Q : Exit → Act → World → Prop} {E : Prop} (W : World) (q : ByteArray) (N : Nat) (hgd : o.guard = none) (s x : Operand) (t : TypeId)
    (ho : o.op = .call { callee := .builtin .append, args := #[s, x], argTypes := #[t, t] })
    (base : Nat) (e : TypeId) (i : TypeInfo) (ht : P.underlying t = some (.slice e)) (hi : P.info? e = some i) (hz : i.zero = some (.string ByteArray.empty)) (hsize : i.size = 1) (hby : i.bytes = 16)
    (v : Value) (n : Nat) (l : List Value) (hs : a.eval s = v) (hown : W.ownsRow base e 1 v n l) (hN : W.heap[N]? = some (.cells #[.string q] e (0, 0)))
    (hx : a.eval x = .slice (some ⟨N, 0, none⟩) 1 1) (hn : n + 1 ≤ 1000000) (hbase : base ≤ W.heap.size)
    (h : ∀ g cap w', w'.ownsRow base e 1 (.slice (some ⟨g, 0, none⟩) (n + 1) cap) (n + 1) (l ++ [.string q]) → W.grownBy w' v.ownBlock → (v.ownBlock = some g ∨ g = W.heap.size) → g < w'.heap.size →
      K (a.put o.dst (.slice (some ⟨g, 0, none⟩) (n + 1) cap)) w') : if Region.wanted o (yielded ops a.tmps) = true then Oper.wp P o a W K Q else E :=
  step_append_lies W hgd s x t ho base e i _ 1 16 ht hi hz hsize hby rfl (by omega) v n l hs hown ⟨N, 0, none⟩ 1 1 [.string q] hx rfl (fun j u hu => by
      have : j = 0 := by
        rcases Nat.eq_zero_or_pos j with h0 | h0
        · exact h0
        · rw [List.getElem?_eq_none (by simp; omega)] at hu; cases hu
      subst this
      rw [Addr.add_mid, cell_of_row _ _ _ _ _ _ hN]
      simpa using hu) (by simp [Value.oneCell']) (by omega) (by simp only [maxLen]; omega)
    (by omega) hbase W.heap.size rfl h
def Tri (A B C : World → Prop) : Nat → World → Prop
  | 0 => A
  | 1 => B
  | _ => C

set_option maxRecDepth 100000 in
set_option maxHeartbeats 8000000 in
theorem Deliver_dup (h : PairAt g p vp vs vw w) (k : Nat) (hn : p.ws.length ≤ 64) (hk : k < p.ws.length) (hs : p.ss.length ≤ 1000) (hold : ¬ p.ws[k]!.term < p.term) (hack : p.ws[k]!.ack = false) (hnew : ¬ p.ws[k]!.num = (p.ss.length : Int) + 1) (q : Pr) (hq : q = (p.take k)) :
    Calls Try.prog 22 #[.pointer (some ⟨g, 0, none⟩), .int .i64 (k : Int)] w (Pp g (Own g vp vs vw) (q.push [ackOf q]) (.returned (.int .i64 0)) w) := by
  have HH := Lib.hid h
  have ht := Lib.hid (take_yes h k hk (by omega))
  have hel : ((p.take k).ws).length + 1 = p.ws.length := by show (p.ws.eraseIdx k).length + 1 = _; rw [List.length_eraseIdx, if_pos hk]; omega
  obtain ⟨m, hm⟩ : ∃ m, p.ws[k]! = m := ⟨_, rfl⟩
  rw [hm] at ht hold hack hnew
  unfold msgOf at ht
  obtain ⟨m1, m2, m3, m4⟩ := m
  have hack : m3 = false := hack
  subst hack
  have hold : decide (m1 < p.term) = false := by simpa using hold
  have hsl : (p.take k).ss.length = p.ss.length := rfl
  have hqt : q.term = p.term := by rw [hq]; rfl
  have hqw : q.ws.length ≤ 63 := by
    have : q.ws = (p.take k).ws := by rw [hq]
    rw [this]; omega
  have hqs : (q.ss.length : Int) = (p.ss.length : Int) := by rw [hq]; rfl
  have hqe : q.pushE [ackOf q] = 0 := by unfold Pr.pushE; rw [if_pos]; show q.ws.length + 1 ≤ 64; omega
  have hqm : ackOf q = ⟨p.term, (p.ss.length : Int), true, ByteArray.empty⟩ := by unfold ackOf; rw [hqt, hqs]
  have HQ := Lib.hid hq
  have HQM := Lib.hid hqm
  have HQE := Lib.hid hqe
  have HQW := Lib.hid hqw
  have hsw : IntKind.i64.wrap ((p.ss.length : Int) + 1) = (p.ss.length : Int) + 1 := IntWalk.i64_in _ (by omega)
  have hb2e : (m2 == (p.ss.length : Int) + 1) = false := by simpa using hnew
  have HN := Lib.hid hnew
  obtain ⟨i0, J0, J1, J2, J3⟩ := info_parts str_info
  clear h hk hm hnew hq hqm hqe hqt hqs hel hsl hqw
  go_enter Try.func22, Try.ntmps22
  go_wp2_with (go_at_call 31; refine ht.out.mono ?_; rintro e w1 ⟨vp1, vs1, vw1, rfl, hp1, hc1⟩; have HP := Lib.hid (And.intro hp1 hc1); have hlt1 := hp1.lt; have hM := Mail.mk (hp1.below ((Below.refl _ w1).alloc (Nat.le_refl _) (.cells #[.int .i64 m1, .int .i64 m2, .bool false, .string m4] 46))) (heap_alloc_new w1 _); have HM := Lib.hid hM; have hbel : Below w1.heap.size w1 (w1.alloc (.cells #[.int .i64 m1, .int .i64 m2, .bool false, .string m4] 46)) := (Below.refl _ _).alloc (Nat.le_refl _) _; have HB := Lib.hid hbel; clear hp1 hc1 hM hbel)
  generalize w1.alloc (.cells #[.int .i64 m1, .int .i64 m2, .bool false, .string m4] 46) = W at *
  generalize hB : w1.heap.size = B at *
  have HBB := Lib.hid hB
  clear hB
  obtain ⟨S, cs, rfl⟩ := own_shape HM.out.pa.os
  have c3 : W.cell? ⟨g, 3, none⟩ = some (.int .i64 p.term) := HM.out.pa.cell 3
  have c1 : W.cell? ⟨g, 1, none⟩ = some (.slice S p.ss.length cs) := HM.out.pa.cell 1
  have b0 : W.cell? ⟨B, 0, none⟩ = some (.int .i64 m1) := cell_of_row W B 0 _ 46 (0, 0) HM.out.blk
  have b1 : W.cell? ⟨B, 1, none⟩ = some (.int .i64 m2) := cell_of_row W B 1 _ 46 (0, 0) HM.out.blk
  have b2 : W.cell? ⟨B, 2, none⟩ = some (.bool false) := cell_of_row W B 2 _ 46 (0, 0) HM.out.blk
  have hne : g ≠ B := by omega
  go_quiet (fail)
  go_wp2
  have HMa := Lib.hid (HM.out.drewN nq)
  have HBa := Lib.hid (below_drewN HB.out nq)
  generalize W.drewN nq = Wa at *
  clear HM HB c3 c1 b0 b1 b2
  have c1 : Wa.cell? ⟨g, 1, none⟩ = some (.slice S p.ss.length cs) := HMa.out.pa.cell 1
  have b1 : Wa.cell? ⟨B, 1, none⟩ = some (.int .i64 m2) := cell_of_row Wa B 1 _ 46 (0, 0) HMa.out.blk
  clear nq
  go_quiet (fail)
  go_wp2
  have HM4 : Hid (PairAt g q vp1 (.slice S p.ss.length cs) vw1 (Wa.drewN nq)) := Lib.hid (by rw [HQ.out]; exact (HMa.out.drewN nq).pa)
  have HC4 : Hid (Ch g (Own g vp vs vw) (Own g vp1 (.slice S p.ss.length cs) vw1) w (Wa.drewN nq)) := Lib.hid (HP.out.2.trans (Ch.of_below (by rw [HBB.out]; exact below_drewN HBa.out nq) (Nat.le_of_lt HP.out.1.lt)))
  generalize Wa.drewN nq = W4 at *
  clear c1 b1
  have c1 : W4.cell? ⟨g, 1, none⟩ = some (.slice S p.ss.length cs) := HM4.out.cell 1
  have c3 : W4.cell? ⟨g, 3, none⟩ = some (.int .i64 p.term) := by have := HM4.out.cell 3; rw [show q.term = p.term by rw [HQ.out]; rfl] at this; exact this
  have hbel5 : Below W4.heap.size W4 (W4.drew.alloc (.cells #[.int .i64 p.term, .int .i64 (p.ss.length : Int), .bool true, .string { data := #[] }] 46)) := ((Below.refl _ W4).drew).alloc (Nat.le_refl _) _
  have HM5 := Lib.hid (HM4.out.below hbel5)
  have HB5 := Lib.hid hbel5
  clear hbel5
  refine Dr.region (Tri (fun w' => w' = W4.drew) (fun w' => w' = W4.drew.alloc (.cells #[.int .i64 p.term, .int .i64 (p.ss.length : Int), .bool true, .string { data := #[] }] 46)) (fun w' => Pp g (Own g vp1 (.slice S p.ss.length cs) vw1) (q.push [ackOf q]) (.returned (.int .i64 0)) (W4.drew.alloc (.cells #[.int .i64 p.term, .int .i64 (p.ss.length : Int), .bool true, .string { data := #[] }] 46)) (.returned (.int .i64 0)) w')) [11, 12] [(0, 1, false), (0, 0, false), (0, 0, false), (0, 0, false), (0, 0, false), (0, 0, false), (0, 0, false), (0, 0, false), (0, 0, false), (0, 0, false), (0, 0, false), (0, 0, true), (1, 1, true), (2, 2, false)] 2 (by kernel_rfl) (by kernel_rfl) (by kernel_rfl) (by kernel_rfl) (by rfl) ?_
  apply Dr.cons
  · intro k hk1 hk2 w' hw K hK; go_simp; exact hK _ hw
  · exact ⟨_, rfl⟩
  apply Dr.cons
  · intro k hk1 hk2 w' hw K hK; go_simp; exact hK _ hw
  · exact ⟨_, rfl⟩
  apply Dr.cons
  · intro k hk1 hk2 w' hw K hK; go_simp; exact hK _ hw
  · exact ⟨_, rfl⟩
  apply Dr.cons
  · intro k hk1 hk2 w' hw K hK; go_simp; exact hK _ hw
  · exact ⟨_, rfl⟩
  apply Dr.cons
  · intro k hk1 hk2 w' hw K hK; obtain rfl : k = 0 := by omega
    obtain rfl : w' = _ := hw
    go_simp; exact hK _ rfl
  · exact ⟨_, rfl⟩
  apply Dr.cons
  · intro k hk1 hk2 w' hw K hK; go_simp; exact hK _ hw
  · exact ⟨_, rfl⟩
  apply Dr.cons
  · intro k hk1 hk2 w' hw K hK; go_simp; exact hK _ hw
  · exact ⟨_, rfl⟩
  apply Dr.cons
  · intro k hk1 hk2 w' hw K hK; go_simp; exact hK _ hw
  · exact ⟨_, rfl⟩
  apply Dr.cons
  · intro k hk1 hk2 w' hw K hK; obtain rfl : k = 0 := by omega
    obtain rfl : w' = _ := hw
    go_simp; exact hK _ rfl
  · exact ⟨_, rfl⟩
  apply Dr.cons
  · intro k hk1 hk2 w' hw K hK; go_simp; exact hK _ hw
  · exact ⟨_, rfl⟩
  apply Dr.cons
  · intro k hk1 hk2 w' hw K hK; go_simp; exact hK _ hw
  · exact ⟨_, rfl⟩
  apply Dr.cons
  · intro k hk1 hk2 w' hw K hK; obtain rfl : k = 0 := by omega
    obtain rfl : w' = _ := hw
    go_simp; exact hK _ rfl
  · exact ⟨_, rfl⟩
  apply Dr.cons
  · intro k hk1 hk2 w' hw K hK; obtain rfl : k = 1 := by omega
    obtain rfl : w' = _ := hw
    go_simp
    refine (send_one HM5.out p.term (p.ss.length : Int) true ByteArray.empty W4.heap.size (by exact heap_alloc_new W4.drew _) (by have := HQW.out; omega)).mono ?_
    rintro e w6 ⟨vp6, vs6, vw6, he6, hp6, hc6⟩
    rw [← HQM.out] at he6 hp6
    rw [HQE.out] at he6
    subst he6
    exact hK _ ⟨vp6, vs6, vw6, rfl, hp6, hc6⟩
  · exact ⟨_, rfl⟩
  apply Dr.cons
  · intro k hk1 hk2 w' hw K hK; go_simp; exact hK _ hw
  · exact ⟨_, rfl⟩
  intro w6 hw6
  have hw6 : Pp g (Own g vp1 (.slice S p.ss.length cs) vw1) (q.push [ackOf q]) (.returned (.int .i64 0)) (W4.drew.alloc (.cells #[.int .i64 p.term, .int .i64 (p.ss.length : Int), .bool true, .string { data := #[] }] 46)) (.returned (.int .i64 0)) w6 := hw6
  go_wp2
  go_ret
  obtain ⟨vp6, vs6, vw6, _, hp6, hc6⟩ := hw6
  exact ⟨_, _, _, rfl, hp6, (HC4.out.trans (Ch.of_below HB5.out (Nat.le_of_lt HM4.out.lt))).trans hc6⟩

set_option maxRecDepth 100000 in
set_option maxHeartbeats 8000000 in
theorem Deliver_new (h : PairAt g p vp vs vw w) (k : Nat) (hn : p.ws.length ≤ 64) (hk : k < p.ws.length) (hs : p.ss.length ≤ 1000) (hold : ¬ p.ws[k]!.term < p.term) (hack : p.ws[k]!.ack = false) (hnew : p.ws[k]!.num = (p.ss.length : Int) + 1) (q : Pr) (hq : q = { p.take k with ss := p.ss ++ [p.ws[k]!.text] }) :
    Calls Try.prog 22 #[.pointer (some ⟨g, 0, none⟩), .int .i64 (k : Int)] w (Pp g (Own g vp vs vw) (q.push [ackOf q]) (.returned (.int .i64 0)) w) := by
  have HH := Lib.hid h
  have ht := Lib.hid (take_yes h k hk (by omega))
  have hel : ((p.take k).ws).length + 1 = p.ws.length := by show (p.ws.eraseIdx k).length + 1 = _; rw [List.length_eraseIdx, if_pos hk]; omega
  obtain ⟨m, hm⟩ : ∃ m, p.ws[k]! = m := ⟨_, rfl⟩
  rw [hm] at ht hold hack hnew hq
  unfold msgOf at ht
  obtain ⟨m1, m2, m3, m4⟩ := m
  have hack : m3 = false := hack
  subst hack
  have hold : decide (m1 < p.term) = false := by simpa using hold
  have hsl : (p.take k).ss.length = p.ss.length := rfl
  have hqt : q.term = p.term := by rw [hq]; rfl
  have hqw : q.ws.length ≤ 63 := by
    have : q.ws = (p.take k).ws := by rw [hq]
    rw [this]; omega
  have hqs : (q.ss.length : Int) = (p.ss.length : Int) + 1 := by rw [hq]; simp
  have hqe : q.pushE [ackOf q] = 0 := by unfold Pr.pushE; rw [if_pos]; show q.ws.length + 1 ≤ 64; omega
  have hqm : ackOf q = ⟨p.term, (p.ss.length : Int) + 1, true, ByteArray.empty⟩ := by unfold ackOf; rw [hqt, hqs]
  have HQ := Lib.hid hq
  have HQM := Lib.hid hqm
  have HQE := Lib.hid hqe
  have HQW := Lib.hid hqw
  have hsw : IntKind.i64.wrap ((p.ss.length : Int) + 1) = (p.ss.length : Int) + 1 := IntWalk.i64_in _ (by omega)
  have hb2e : (m2 == (p.ss.length : Int) + 1) = true := by simpa using hnew
  have HN := Lib.hid hnew
  obtain ⟨i0, J0, J1, J2, J3⟩ := info_parts str_info
  clear h hk hm hnew hq hqm hqe hqt hqs hel hsl hqw
  go_enter Try.func22, Try.ntmps22
  go_wp2_with (go_at_call 31; refine ht.out.mono ?_; rintro e w1 ⟨vp1, vs1, vw1, rfl, hp1, hc1⟩; have HP := Lib.hid (And.intro hp1 hc1); have hlt1 := hp1.lt; have hM := Mail.mk (hp1.below ((Below.refl _ w1).alloc (Nat.le_refl _) (.cells #[.int .i64 m1, .int .i64 m2, .bool false, .string m4] 46))) (heap_alloc_new w1 _); have HM := Lib.hid hM; have hbel : Below w1.heap.size w1 (w1.alloc (.cells #[.int .i64 m1, .int .i64 m2, .bool false, .string m4] 46)) := (Below.refl _ _).alloc (Nat.le_refl _) _; have HB := Lib.hid hbel; clear hp1 hc1 hM hbel)
  generalize w1.alloc (.cells #[.int .i64 m1, .int .i64 m2, .bool false, .string m4] 46) = W at *
  generalize hB : w1.heap.size = B at *
  have HBB := Lib.hid hB
  clear hB
  obtain ⟨S, cs, rfl⟩ := own_shape HM.out.pa.os
  have c3 : W.cell? ⟨g, 3, none⟩ = some (.int .i64 p.term) := HM.out.pa.cell 3
  have c1 : W.cell? ⟨g, 1, none⟩ = some (.slice S p.ss.length cs) := HM.out.pa.cell 1
  have b0 : W.cell? ⟨B, 0, none⟩ = some (.int .i64 m1) := cell_of_row W B 0 _ 46 (0, 0) HM.out.blk
  have b1 : W.cell? ⟨B, 1, none⟩ = some (.int .i64 m2) := cell_of_row W B 1 _ 46 (0, 0) HM.out.blk
  have b2 : W.cell? ⟨B, 2, none⟩ = some (.bool false) := cell_of_row W B 2 _ 46 (0, 0) HM.out.blk
  have hne : g ≠ B := by omega
  go_quiet (fail)
  go_wp2
  have HMa := Lib.hid (HM.out.drewN nq)
  have HBa := Lib.hid (below_drewN HB.out nq)
  generalize W.drewN nq = Wa at *
  clear HM HB c3 c1 b0 b1 b2
  have c1 : Wa.cell? ⟨g, 1, none⟩ = some (.slice S p.ss.length cs) := HMa.out.pa.cell 1
  have b1 : Wa.cell? ⟨B, 1, none⟩ = some (.int .i64 m2) := cell_of_row Wa B 1 _ 46 (0, 0) HMa.out.blk
  clear nq
  go_quiet (fail)
  go_wp2
  have HM2 := Lib.hid (HMa.out.drewN nq)
  have HB2 := Lib.hid (below_drewN HBa.out nq)
  generalize Wa.drewN nq = W2 at *
  clear c1 b1
  have c1 : W2.cell? ⟨g, 1, none⟩ = some (.slice S p.ss.length cs) := HM2.out.pa.cell 1
  have b3 : W2.cell? ⟨B, 3, none⟩ = some (.string m4) := cell_of_row W2 B 3 _ 46 (0, 0) HM2.out.blk
  have ca : ∀ o, (W2.alloc o).cell? ⟨g, 1, none⟩ = some (.slice S p.ss.length cs) := fun o => (World.cell?_alloc_lt W2 o ⟨g, 1, none⟩ HM2.out.pa.lt).trans c1
  go_region_law (refine step_append_str _ m4 W2.heap.size rfl (.tmp 26) (.tmp 29) 26 rfl (g + 1) 9 i0 Try.underlying26 J0 J1 J2 J3 (.slice S p.ss.length cs) p.ss.length (strsV p.ss) rfl ((HM2.out.pa.os.alloc _)) (by exact heap_alloc_new W2 _) rfl (by omega) (by have := HM2.out.pa.lt; simp; omega) ?_; intro g3 cap3 w3 hv3 hg3 hat3 hlt3; rw [strsV_snoc] at hv3; obtain ⟨r1, r2, r3⟩ := (HM2.out.pa.drewN 1).addS (o := .cells #[.string m4] 9) (W := (W2.drewN 1).alloc (.cells #[.string m4] 9)) (.inr rfl) (w1 := w3) (v' := .slice (some ⟨g3, 0, none⟩) (p.ss.length + 1) cap3) (l := p.ss ++ [m4]) (by rw [List.length_append, List.length_singleton]; exact hv3) hg3 (N := W2.heap.size + 1) (hat3.imp (fun e => e.symm) (fun e => by rw [e]; simp [Value.ownBlock])) (by simp); have d1 := cell_of_row w3 g 1 _ 39 (0, 0) r3; have e1 := frozen_of_row w3 g 1 _ 39 r3; have R := Lib.hid (And.intro r1 r2); clear r1 r2 r3 hv3 hg3 hat3)
  all_goals
    go_wp2
    have HM4 : Hid (PairAt g q vp1 (.slice (some ⟨g3, 0, none⟩) (p.ss.length + 1) cap3) vw1 (w3.setCell ⟨g, 1, none⟩ (.slice (some ⟨g3, 0, none⟩) (p.ss.length + 1) cap3))) := Lib.hid (by rw [HQ.out]; exact R.out.1)
    have HC4 : Hid (Ch g (Own g vp vs vw) (Own g vp1 (.slice (some ⟨g3, 0, none⟩) (p.ss.length + 1) cap3) vw1) w (w3.setCell ⟨g, 1, none⟩ (.slice (some ⟨g3, 0, none⟩) (p.ss.length + 1) cap3))) := Lib.hid ((HP.out.2.trans (Ch.of_below (by rw [HBB.out]; exact below_drewN HB2.out 1) (Nat.le_of_lt HP.out.1.lt))).trans R.out.2)
    generalize (w3.setCell ⟨g, 1, none⟩ (.slice (some ⟨g3, 0, none⟩) (p.ss.length + 1) cap3)) = W4 at *
    clear d1 e1
    have c1 : W4.cell? ⟨g, 1, none⟩ = some (.slice (some ⟨g3, 0, none⟩) (p.ss.length + 1) cap3) := HM4.out.cell 1
    have c3 : W4.cell? ⟨g, 3, none⟩ = some (.int .i64 p.term) := by have := HM4.out.cell 3; rw [show q.term = p.term by rw [HQ.out]; rfl] at this; exact this
    have hbel5 : Below W4.heap.size W4 (W4.drew.alloc (.cells #[.int .i64 p.term, .int .i64 ((p.ss.length : Int) + 1), .bool true, .string { data := #[] }] 46)) := ((Below.refl _ W4).drew).alloc (Nat.le_refl _) _
    have HM5 := Lib.hid (HM4.out.below hbel5)
    have HB5 := Lib.hid hbel5
    clear hbel5
    refine Dr.region (Tri (fun w' => w' = W4.drew) (fun w' => w' = W4.drew.alloc (.cells #[.int .i64 p.term, .int .i64 ((p.ss.length : Int) + 1), .bool true, .string { data := #[] }] 46)) (fun w' => Pp g (Own g vp1 (.slice (some ⟨g3, 0, none⟩) (p.ss.length + 1) cap3) vw1) (q.push [ackOf q]) (.returned (.int .i64 0)) (W4.drew.alloc (.cells #[.int .i64 p.term, .int .i64 ((p.ss.length : Int) + 1), .bool true, .string { data := #[] }] 46)) (.returned (.int .i64 0)) w')) [11, 12] [(0, 1, false), (0, 0, false), (0, 0, false), (0, 0, false), (0, 0, false), (0, 0, false), (0, 0, false), (0, 0, false), (0, 0, false), (0, 0, false), (0, 0, false), (0, 0, true), (1, 1, true), (2, 2, false)] 2 (by kernel_rfl) (by kernel_rfl) (by kernel_rfl) (by kernel_rfl) (by rfl) ?_
    apply Dr.cons
    · intro k hk1 hk2 w' hw K hK; go_simp; exact hK _ hw
    · exact ⟨_, rfl⟩
    apply Dr.cons
    · intro k hk1 hk2 w' hw K hK; go_simp; exact hK _ hw
    · exact ⟨_, rfl⟩
    apply Dr.cons
    · intro k hk1 hk2 w' hw K hK; go_simp; exact hK _ hw
    · exact ⟨_, rfl⟩
    apply Dr.cons
    · intro k hk1 hk2 w' hw K hK; go_simp; exact hK _ hw
    · exact ⟨_, rfl⟩
    apply Dr.cons
    · intro k hk1 hk2 w' hw K hK; obtain rfl : k = 0 := by omega
      obtain rfl : w' = _ := hw
      go_simp; exact hK _ rfl
    · exact ⟨_, rfl⟩
    apply Dr.cons
    · intro k hk1 hk2 w' hw K hK; go_simp; exact hK _ hw
    · exact ⟨_, rfl⟩
    apply Dr.cons
    · intro k hk1 hk2 w' hw K hK; go_simp; exact hK _ hw
    · exact ⟨_, rfl⟩
    apply Dr.cons
    · intro k hk1 hk2 w' hw K hK; go_simp; exact hK _ hw
    · exact ⟨_, rfl⟩
    apply Dr.cons
    · intro k hk1 hk2 w' hw K hK; obtain rfl : k = 0 := by omega
      obtain rfl : w' = _ := hw
      go_simp; exact hK _ rfl
    · exact ⟨_, rfl⟩
    apply Dr.cons
    · intro k hk1 hk2 w' hw K hK; go_simp; exact hK _ hw
    · exact ⟨_, rfl⟩
    apply Dr.cons
    · intro k hk1 hk2 w' hw K hK; go_simp; exact hK _ hw
    · exact ⟨_, rfl⟩
    apply Dr.cons
    · intro k hk1 hk2 w' hw K hK; obtain rfl : k = 0 := by omega
      obtain rfl : w' = _ := hw
      go_simp; exact hK _ rfl
    · exact ⟨_, rfl⟩
    apply Dr.cons
    · intro k hk1 hk2 w' hw K hK; obtain rfl : k = 1 := by omega
      obtain rfl : w' = _ := hw
      go_simp
      refine (send_one HM5.out p.term ((p.ss.length : Int) + 1) true ByteArray.empty W4.heap.size (by exact heap_alloc_new W4.drew _) (by have := HQW.out; omega)).mono ?_
      rintro e w6 ⟨vp6, vs6, vw6, he6, hp6, hc6⟩
      rw [← HQM.out] at he6 hp6
      rw [HQE.out] at he6
      subst he6
      exact hK _ ⟨vp6, vs6, vw6, rfl, hp6, hc6⟩
    · exact ⟨_, rfl⟩
    apply Dr.cons
    · intro k hk1 hk2 w' hw K hK; go_simp; exact hK _ hw
    · exact ⟨_, rfl⟩
    intro w6 hw6
    have hw6 : Pp g (Own g vp1 (.slice (some ⟨g3, 0, none⟩) (p.ss.length + 1) cap3) vw1) (q.push [ackOf q]) (.returned (.int .i64 0)) (W4.drew.alloc (.cells #[.int .i64 p.term, .int .i64 ((p.ss.length : Int) + 1), .bool true, .string { data := #[] }] 46)) (.returned (.int .i64 0)) w6 := hw6
    go_wp2
    go_ret
    obtain ⟨vp6, vs6, vw6, _, hp6, hc6⟩ := hw6
    exact ⟨_, _, _, rfl, hp6, (HC4.out.trans (Ch.of_below HB5.out (Nat.le_of_lt HM4.out.lt))).trans hc6⟩
end
end Go.Proofs.Ythlmejkkdmfkhaa
