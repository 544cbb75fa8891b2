/- The conditions of the laws on package standby. -/
import Derived.Test.YthlmejkkdmfkhaaA10
import Derived.Shelf.Abstract
namespace Go.Proofs.Ythlmejkkdmfkhaa
open Go.RowKit

theorem enters10 : ∀ (args : Array Value) (w : World), (callFunc 10 args).run Try.prog w = .ok (.enter 10 args) w := enters_of Try.func10 (by kernel_rfl) rfl
theorem enters16 : ∀ (args : Array Value) (w : World), (callFunc 16 args).run Try.prog w = .ok (.enter 16 args) w := enters_of Try.func16 (by kernel_rfl) rfl
theorem enters18 : ∀ (args : Array Value) (w : World), (callFunc 18 args).run Try.prog w = .ok (.enter 18 args) w := enters_of Try.func18 (by kernel_rfl) rfl
theorem enters23 : ∀ (args : Array Value) (w : World), (callFunc 23 args).run Try.prog w = .ok (.enter 23 args) w := enters_of Try.func23 (by kernel_rfl) rfl

def Any_ (_ : Pr) (_ : Nat → Prop) (_ : World) : Prop := True
theorem any_step (g : Nat) : ∀ p p' O O' W W', Any_ p O W → Ext p p' → Ch g O O' W W' → Any_ p' O' W' := fun _ _ _ _ _ _ _ _ _ => trivial
theorem yes18 (B g : Nat) (T : Int) (p : Pr) (vp vs vw : Value) (W : World) (hp : PairAt g p vp vs vw W) (_ : Wf T p) (_ : Any_ p (Own g vp vs vw) W) : Calls Try.prog 18 #[] W (Held B g p vp vs vw Any_ W) := by
  have HP := Lib.hid hp
  clear hp
  go_enter Try.func18, Try.ntmps18
  go_wp2
  go_ret
  exact ⟨rfl, HP.out, trivial, Below.refl _ _⟩
theorem yes23 (B g : Nat) (T : Int) (p : Pr) (vp vs vw : Value) (W : World) (hp : PairAt g p vp vs vw W) (_ : Wf T p) (_ : Any_ p (Own g vp vs vw) W) : Calls Try.prog 23 #[] W (Held B g p vp vs vw Any_ W) := by
  have HP := Lib.hid hp
  clear hp
  go_enter Try.func23, Try.ntmps23
  go_wp2
  go_ret
  exact ⟨rfl, HP.out, trivial, Below.refl _ _⟩

/-- A box that is none of the pair's holds the pair's pointer. -/
def BoxP (b g : Nat) (O : Nat → Prop) (W : World) : Prop := ¬ O b ∧ W.heap[b]? = some (.cells #[.pointer (some ⟨g, 0, none⟩)] 23 (0, 0))
theorem BoxP.lt {b g : Nat} {O : Nat → Prop} {W : World} (h : BoxP b g O W) : b < W.heap.size := (Array.getElem?_eq_some_iff.1 h.2).1
theorem BoxP.step {b g : Nat} {O O' : Nat → Prop} {W W' : World} (h : BoxP b g O W) (hc : Ch g O O' W W') : BoxP b g O' W' :=
  ⟨fun x => by
    rcases hc.fresh b x with y | y
    · exact h.1 y
    · have := h.lt; omega, (hc.keep b h.lt h.1).trans h.2⟩
def InvF (b g : Nat) (_ : Pr) (O : Nat → Prop) (W : World) : Prop := BoxP b g O W
theorem invF_step (b g : Nat) : ∀ p p' O O' W W', InvF b g p O W → Ext p p' → Ch g O O' W W' → InvF b g p' O' W' := fun _ _ _ _ _ _ h _ hc => BoxP.step h hc

theorem slice_take {A : Option Addr} {c : Nat} (n q : Nat) (hq : q ≤ n) (hn : n ≤ c) (hc : c ≤ maxLen) (hnil : A = none → n = 0 ∧ c = 0) (W : World) : (Instr.slice 26 (.slice A n c) none (some (.int .i64 (q : Int))) none).run Try.prog W = .ok (.slice A q c) W := by
  unfold maxLen at hc
  have h0 : (0 : Int) ≤ (q : Int) := by omega
  have h1 : (q : Int) ≤ (c : Int) := by omega
  cases A with
  | none =>
    obtain ⟨rfl, rfl⟩ := hnil rfl
    obtain rfl : q = 0 := by omega
    go_simp
  | some a => go_simp
theorem sl_take {w : World} {N : Nat} {A : Option Addr} {l m : List ByteArray} (h : Sl w N 1 A l.length (rowS l)) (hm : m <+: l) : Sl w N 1 A m.length (rowS m) := by
  refine (h.less hm.length_le).congr fun i hi => ?_
  obtain ⟨r, rfl⟩ := hm
  unfold rowS
  rw [getElem!_pos (m ++ r) i (by simp; omega), getElem!_pos m i hi, List.getElem_append_left hi]

set_option maxRecDepth 100000 in
set_option maxHeartbeats 8000000 in
theorem follows_yes (B b g : Nat) (hBg : B ≤ g) (T : Int) (p : Pr) (vp vs vw : Value) (W : World) (hp : PairAt g p vp vs vw W) (hw : Wf T p) (hi : InvF b g p (Own g vp vs vw) W) :
    Calls Try.prog 16 #[.pointer (some ⟨b, 0, none⟩)] W (Held B g p vp vs vw (InvF b g) W) := by
  have HP := Lib.hid hp
  have HW := Lib.hid hw
  have HI := Lib.hid hi
  have hbl := BoxP.lt hi
  have cb : W.cell? ⟨b, 0, none⟩ = some (.pointer (some ⟨g, 0, none⟩)) := cell_of_row W b 0 _ 23 (0, 0) hi.2
  have hlt := hp.lt
  have hp64 := hw.p64
  have hsp := hw.sp
  have h1 := hw.ds
  have h2 := hw.d0
  clear hp hw hi
  go_enter Try.func16, Try.ntmps16
  go_wp2
  go_region_held3 (fun V => V.cell? ⟨b, 0, none⟩ = some (.pointer (some ⟨g, 0, none⟩))) (first | go_keep | assumption | exact CB2.out) ((first
    | (go_at_call 11; go_loud (refine (Primary_any (HP.out.drewN 1) (by omega)).mono ?_; rintro e w2 ⟨A2, c2, rfl, hv2, hb2⟩; have hb2 : Below W.heap.size W w2 := (below_drewN (Below.refl _ W) 1).trans hb2; have CB2 : Hid (w2.cell? ⟨b, 0, none⟩ = some (.pointer (some ⟨g, 0, none⟩))) := Lib.hid ((hb2.cell (p := ⟨b, 0, none⟩) (by show b < _; exact hbl)).trans cb); have cb2 := CB2.out; have H2 := Lib.hid (And.intro (HP.out.below hb2) (And.intro hv2 hb2)); clear hv2 hb2))
    | (go_at_call 17; go_loud (refine (Standby_any H2.out.1 (by omega)).mono ?_; rintro e w3 ⟨A3, c3, rfl, hv3, hb3⟩; have CB2 : Hid (w3.cell? ⟨b, 0, none⟩ = some (.pointer (some ⟨g, 0, none⟩))) := Lib.hid ((hb3.cell (p := ⟨b, 0, none⟩) (by show b < _; have := H2.out.2.2.size; omega)).trans cb2); have cb3 := CB2.out; have H3 := Lib.hid (And.intro (H2.out.1.below hb3) (And.intro hv3 hb3)); clear hv3 hb3))))
  have hsl := slice_take (A := A2) (c := c2) p.ps.length p.ss.length hsp (own_cap H2.out.2.1).1 (own_cap H2.out.2.1).2 (own_nil H2.out.2.1)
  have heq := EqualS A3 A2 p.ss p.ss.length c3 c2 w3.heap.size w3 (strs_sl H3.out.2.1) (sl_take ((strs_sl H2.out.2.1).below H3.out.2.2 |>.more H3.out.2.2.size) HW.out.pre) rfl (by omega)
  have HEQ := Lib.hid heq
  have hle : (p.ss.length : Int) ≤ (p.ps.length : Int) := by omega
  have n0 : (0 : Int) ≤ (p.ss.length : Int) := by omega
  clear heq
  go_wp2_with (first
    | (go_at_call 13; refine HEQ.out.mono ?_; rintro e w4 ⟨rfl, q4, rfl⟩)
    | (go_at_call 14; go_loud (refine (Done_any (H3.out.1.drewN q4)).mono ?_; rintro e w5 ⟨rfl, rfl⟩)))
  go_ret
  have hb : Below W.heap.size W w3 := bstep H2.out.2.2 H3.out.2.2
  have hc : Ch g (Own g vp vs vw) (Own g vp vs vw) W (w3.drewN q4) := Ch.of_below (below_drewN hb q4) (Nat.le_of_lt hlt)
  exact ⟨rfl, H3.out.1.drewN q4, BoxP.step HI.out hc, hc.below.mono hBg⟩

/-- The condition of StandbyKeeps: what is known, in a box of its own. -/
structure InvK (b bk g : Nat) (p : Pr) (O : Nat → Prop) (W : World) : Prop where
  box : BoxP b g O W
  ne : b ≠ bk
  gk : g ≤ bk
  ex : ∃ (vk : Value) (kn : List ByteArray), W.heap[bk]? = some (.cells #[vk] 26 (0, 0)) ∧ W.ownsRow (bk + 1) 9 1 vk kn.length (strsV kn) ∧ kn <+: p.ps ∧ (kn.length : Int) ≤ p.ans ∧ ¬ O bk ∧ ∀ k, vk.ownBlock = some k → ¬ O k
theorem invK_step (b bk g : Nat) : ∀ p p' O O' W W', InvK b bk g p O W → Ext p p' → Ch g O O' W W' → InvK b bk g p' O' W' := fun p p' O O' W W' h he hc => by
  obtain ⟨vk, kn, h1, h2, h3, h4, h5, h6⟩ := h.ex
  have hlt : bk < W.heap.size := (Array.getElem?_eq_some_iff.1 h1).1
  refine ⟨h.box.step hc, h.ne, h.gk, vk, kn, (hc.keep bk hlt h5).trans h1, ?_, he.1 kn h3 h4, Int.le_trans h4 he.2, fun x => ?_, fun k hk x => ?_⟩
  · refine ⟨h2.1, ?_⟩
    rcases h2.2 with hn | ⟨k, cap, cur, rfl, hb', hgg, rest⟩
    · exact .inl hn
    · exact .inr ⟨k, cap, cur, rfl, hb', (hc.keep k (h2.lt k rfl).2 (h6 k rfl)).trans hgg, rest⟩
  · rcases hc.fresh bk x with y | y
    · exact h5 y
    · omega
  · rcases hc.fresh k x with y | y
    · exact h6 k hk y
    · have := (h2.lt k hk).2; omega

set_option maxRecDepth 100000 in
set_option maxHeartbeats 8000000 in
theorem keeps_yes (B b bk g : Nat) (hBg : B ≤ g) (T : Int) (p : Pr) (vp vs vw : Value) (W : World) (hp : PairAt g p vp vs vw W) (hw : Wf T p) (hi : InvK b bk g p (Own g vp vs vw) W) :
    Calls Try.prog 10 #[.pointer (some ⟨b, 0, none⟩), .pointer (some ⟨bk, 0, none⟩)] W (Held B g p vp vs vw (InvK b bk g) W) := by
  have HP := Lib.hid hp
  have HW := Lib.hid hw
  have HI := Lib.hid hi
  have hbl := BoxP.lt hi.box
  have cb : W.cell? ⟨b, 0, none⟩ = some (.pointer (some ⟨g, 0, none⟩)) := cell_of_row W b 0 _ 23 (0, 0) hi.box.2
  obtain ⟨vk, kn, k1, k2, k3, k4, k5, k6⟩ := hi.ex
  obtain ⟨Ak, ck, rfl⟩ := own_shape k2
  have hkl : bk < W.heap.size := (Array.getElem?_eq_some_iff.1 k1).1
  have hlt := hp.lt
  have hp64 := hw.p64
  have h1 := hw.ap
  have h2 := hw.d0
  have h3 := hw.da
  obtain ⟨a, ha⟩ : ∃ a : Nat, p.ans = a := ⟨p.ans.toNat, by omega⟩
  have hkp := k3.length_le
  have HK := Lib.hid (And.intro k1 (And.intro k2 (And.intro k3 (And.intro k5 k6))))
  have HA := Lib.hid ha
  rw [ha] at k4 h1 h3
  have hbk := hi.ne
  clear hp hw hi k1 k2 k3 k5 k6 ha
  go_enter Try.func10, Try.ntmps10
  go_wp2
  go_region_held3 (fun V => V.cell? ⟨b, 0, none⟩ = some (.pointer (some ⟨g, 0, none⟩))) (first | go_keep | assumption | exact CB2.out) ((first
    | (go_at_call 11; go_loud (refine (Primary_any (HP.out.drewN 1) (by omega)).mono ?_; rintro e w2 ⟨A2, c2, rfl, hv2, hb2⟩; have hb2 : Below W.heap.size W w2 := (below_drewN (Below.refl _ W) 1).trans hb2; have CB2 : Hid (w2.cell? ⟨b, 0, none⟩ = some (.pointer (some ⟨g, 0, none⟩))) := Lib.hid ((hb2.cell (p := ⟨b, 0, none⟩) (by show b < _; exact hbl)).trans cb); have cb2 := CB2.out; have H2 := Lib.hid (And.intro (HP.out.below hb2) (And.intro hv2 hb2)); clear hv2 hb2))
    | (go_at_call 12; go_loud (refine (Answered_any H2.out.1).mono ?_; rintro e w3 ⟨he3, rfl⟩; rw [HA.out] at he3; subst he3))))
  have hsl := slice_take (A := A2) (c := c2) p.ps.length kn.length (by omega) (own_cap H2.out.2.1).1 (own_cap H2.out.2.1).2 (own_nil H2.out.2.1)
  have hsl2 := slice_take (A := A2) (c := c2) p.ps.length a (by omega) (own_cap H2.out.2.1).1 (own_cap H2.out.2.1).2 (own_nil H2.out.2.1)
  have hk2 := own_below HK.out.2.1 H2.out.2.2 (Nat.le_refl _)
  have heq := fun n => EqualS A2 Ak kn kn.length c2 ck w2.heap.size (w2.drewN n) (sl_take (strs_sl H2.out.2.1) HK.out.2.2.1) (strs_sl hk2) rfl (by omega)
  have HEQ := Lib.hid heq
  have ck1 : w2.cell? ⟨bk, 0, none⟩ = some (.slice Ak kn.length ck) := (H2.out.2.2.cell (p := ⟨bk, 0, none⟩) hkl).trans (cell_of_row W bk 0 _ 26 (0, 0) HK.out.1)
  have fk1 : w2.frozen? ⟨bk, 0, none⟩ = false := (H2.out.2.2.frozen (p := ⟨bk, 0, none⟩) hkl).trans (frozen_of_row W bk 0 _ 26 HK.out.1)
  have d1 : decide (a < kn.length) = false := by simp; omega
  have d2 : decide (p.ps.length < a) = false := by simp; omega
  have d3 : decide ((a : Int) < p.done) = false := by simp; omega
  have n0 : (0 : Int) ≤ (kn.length : Int) := by omega
  have n1 : (0 : Int) ≤ (a : Int) := by omega
  clear heq hk2
  go_wp2_with fail
  go_quiet ((first
    | (go_at_call 13; exact Calls.quiet_of (HEQ.out _))
    | (go_at_call 14; exact Calls.quiet_of_same ((Done_any (H2.out.1.drewN _)).mono fun _ _ h => ⟨h.1, h.2.symm⟩))))
  have hta : (p.ps.take a).length = a := by rw [List.length_take]; omega
  have hcl : ∀ n, Calls Try.prog 15 #[.slice A2 a c2] (w2.drewN n) fun e w' => ∃ A c, e = .returned (.slice A a c) ∧ w'.ownsRow w2.heap.size 9 1 (.slice A a c) a (strsV (p.ps.take a)) ∧ Below w2.heap.size w2 w' := fun n => by
    have := CloneStrs A2 c2 (p.ps.take a) (w2.drewN n) (sl_take (strs_sl H2.out.2.1) (List.take_prefix _ _)) (fun hA => by rw [hta]; have := (own_nil H2.out.2.1 hA).1; omega) (by omega)
    rw [hta] at this
    refine this.mono ?_
    rintro e w' ⟨A, c, he, hv, hb⟩
    rw [hta] at he hv
    exact ⟨A, c, he, hv, (below_drewN (Below.refl _ _) n).trans hb⟩
  have HCL := Lib.hid hcl
  have HTA := Lib.hid hta
  have hz2 := H2.out.2.2.size
  have hkl2 : bk < w2.heap.size := by omega
  clear hcl hta
  go_wp2_with (go_at_call 15; go_loud (refine (HCL.out _).mono ?_; rintro e w5 ⟨A5, c5, rfl, hv5, hb5⟩; have ck5 := (hb5.cell (p := ⟨bk, 0, none⟩) hkl2).trans ck1; have fk5 := (hb5.frozen (p := ⟨bk, 0, none⟩) hkl2).trans fk1; have H5 := Lib.hid (And.intro hv5 hb5); clear hv5 hb5))
  go_ret
  have hb15 : Below W.heap.size W w5 := bstep H2.out.2.2 H5.out.2
  have hk5 : w5.heap[bk]? = some (.cells #[.slice Ak kn.length ck] 26 (0, 0)) := (hb15.block bk hkl).trans HK.out.1
  have hown := (own_mono H5.out.1 (base' := bk + 1) (by omega))
  have hnw : ∀ k, (Value.slice A5 a c5).ownBlock = some k → w2.heap.size ≤ k := fun k hk => (H5.out.1.lt k hk).1
  refine ⟨rfl, ((H2.out.1.below H5.out.2).far bk 0 _ HK.out.2.2.2.1), ⟨⟨HI.out.box.1, (heap_setCell_other _ _ _ _ hbk).trans ((hb15.block b hbl).trans HI.out.box.2)⟩, hbk, HI.out.gk, .slice A5 a c5, p.ps.take a, by simpa using heap_setCell_same w5 bk 0 _ 26 (.slice A5 a c5) hk5, ?_, List.take_prefix _ _, by rw [HTA.out, HA.out]; exact Int.le_refl _, HK.out.2.2.2.1, fun k hk x => ?_⟩, ?_⟩
  · rw [HTA.out]
    exact hown.kept (grown_setCell _ _ _ _) (.inr fun e => by have := hnw bk e; omega)
  · have := hnw k hk
    have := (Own.ge HP.out x).2
    omega
  · exact (hb15.mono (Nat.le_trans hBg (Nat.le_of_lt hlt))).setCell (p := ⟨bk, 0, none⟩) (Nat.le_trans hBg HI.out.gk) _
end Go.Proofs.Ythlmejkkdmfkhaa
