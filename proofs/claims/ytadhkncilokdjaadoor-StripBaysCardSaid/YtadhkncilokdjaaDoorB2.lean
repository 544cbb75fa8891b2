/- Package strip: Move. -/
import Derived.Test.YtadhkncilokdjaaDoorB1
namespace Go.Proofs.YtadhkncilokdjaaDoor
open Go.RowKit
open Go.Lib hiding intOf

def permB (a b : Int) : Bool := (decide (a = 0) && decide (b = 1)) || (decide (a = 1) && (decide (b = 2) || decide (b = 3))) || (decide (a = 2) && (decide (b = 1) || decide (b = 3)))
set_option maxHeartbeats 2000000 in
theorem perm_any (a b : Int) (W : World) (ha : 0 ≤ a ∧ a ≤ 3) (hb : 0 ≤ b ∧ b ≤ 3) : Calls Tryd.prog 21 #[.int .i64 a, .int .i64 b] W fun e w' => e = .returned (.bool (permB a b)) ∧ W = w' := by
  have h1 : a = 0 ∨ a = 1 ∨ a = 2 ∨ a = 3 := by omega
  have h2 : b = 0 ∨ b = 1 ∨ b = 2 ∨ b = 3 := by omega
  clear ha hb
  rcases h1 with rfl | rfl | rfl | rfl <;> rcases h2 with rfl | rfl | rfl | rfl
  all_goals
    go_enter Tryd.func21, Tryd.ntmps21
    go_wp2
    go_ret
    exact ⟨rfl, rfl⟩

/-- What Move leaves. -/
def MvP (g : Nat) (A : Option Addr) (c : Nat) (l : List Va) (w : World) (e : Ending) (w' : World) : Prop :=
  ∃ (r : Int) (l' : List Va), e = .returned (.int .i64 r) ∧ BdV g A c l' w' ∧ Below g w w' ∧ Off g A w w' ∧ l'.map (fun z : Va => z.1.c) = l.map (fun z : Va => z.1.c)
theorem own_bay {base g n cap : Nat} {l : List Va} {w : World} (h : w.ownsRow base 24 5 (.slice (some ⟨g, 0, none⟩) n cap) n (rowsV vaV l)) (hl : l.length = n) (r : Nat) (hr : r < n) (x : Va) (hx : x.1 = { l[r]!.1 with b := x.1.b }) :
    (w.setCell ⟨g, r * 5 + 4, none⟩ (.int .i64 x.1.b)).ownsRow base 24 5 (.slice (some ⟨g, 0, none⟩) n cap) n (rowsV vaV (l.set r x)) := by
  have h1 := (h.stored (r * 5 + 4) (.int .i64 x.1.b)).1
  rw [rowsV_cell (k := 5) (fun _ => rfl) l r (by omega) 4 (by decide) _ x (by unfold vaV; rw [hx]; rfl)] at h1
  exact h1

set_option maxRecDepth 100000 in
set_option maxHeartbeats 4000000 in
theorem Move_none {g c : Nat} {A : Option Addr} {l : List Va} {s : ByteArray} {bay : Int} {w : World} (hB : BdV g A c l w) (hn : l.length ≤ 15) (hb : 0 ≤ bay ∧ bay ≤ 3) (hi : idx (l.map (·.1)) s = -1) :
    Calls Tryd.prog 10 #[.pointer (some ⟨g, 0, none⟩), .string s, .int .i64 bay] w (MvP g A c l w) := by
  have HB := Lib.hid hB
  have HI := Lib.hid (index_any hB.a s (by rw [List.length_map]; omega))
  rw [hi] at HI
  have HN := Lib.hid (fun W => noBay_any bay W)
  have hd : (decide (0 ≤ bay) && decide (bay ≤ 3)) = true := by simp; omega
  rw [hd] at HN
  clear hB hi hd hb
  go_enter Tryd.func10, Tryd.ntmps10
  go_wp2_with (first
    | (go_at_call 18; go_loud (refine HI.out.mono ?_; rintro e w1 ⟨rfl, hb1⟩))
    | (go_at_call 20; go_loud (refine (HN.out _).mono ?_; rintro e w2 ⟨rfl, rfl⟩)))
  go_ret
  exact ⟨8, l, rfl, HB.out.below hb1, hb1.mono (Nat.le_of_lt HB.out.a.lt), off_below hb1, rfl⟩

set_option maxRecDepth 100000 in
set_option maxHeartbeats 4000000 in
theorem Move_at {g c : Nat} {A : Option Addr} {l : List Va} {s : ByteArray} {bay : Int} {w : World} (hB : BdV g A c l w) (hn : l.length ≤ 15) (hb : 0 ≤ bay ∧ bay ≤ 3) (i : Nat) (hil : i < l.length) (hi : idx (l.map (·.1)) s = (i : Int)) :
    Calls Tryd.prog 10 #[.pointer (some ⟨g, 0, none⟩), .string s, .int .i64 bay] w (MvP g A c l w) := by
  have HBd := Lib.hid hB
  have HI := Lib.hid (index_any hB.a s (by rw [List.length_map]; omega))
  rw [hi] at HI
  have HN := Lib.hid (fun W => noBay_any bay W)
  have hd : (decide (0 ≤ bay) && decide (bay ≤ 3)) = true := by simp; omega
  rw [hd] at HN
  have HF := Lib.hid (fun (W : World) (b : Int) (hW : Below w.heap.size w W) => full_any (hB.below hW) b hn)
  obtain ⟨x, hx⟩ : ∃ x : Va, l[i]! = x := ⟨_, rfl⟩
  have HX := Lib.hid hx
  have hxz := stE_zero x.2
  have HP := Lib.hid (fun W => perm_any x.1.b bay W hxz.2.2.2.2.2.2 hb)
  obtain ⟨y, hy⟩ : ∃ y : Va, y.1 = { x.1 with b := bay } := ⟨⟨{ x.1 with b := bay }, by
    unfold stE
    rw [if_neg (by rw [hxz.1, hxz.2.1]; decide), if_pos ⟨hxz.2.2.1, hxz.2.2.2.1, hxz.2.2.2.2.1, hxz.2.2.2.2.2.1, hb.1, hb.2⟩]⟩, rfl⟩
  have HY := Lib.hid hy
  obtain ⟨n, hln⟩ : ∃ n, l.length = n := ⟨_, rfl⟩
  have HL := Lib.hid hln
  rw [hln] at hil hn
  have hin : (i : Int) < (n : Int) := by omega
  have hi0 : (0 : Int) ≤ (i : Int) := by omega
  have HLt := Lib.hid hil
  have hgl := hB.a.lt
  obtain ⟨pb, hpb⟩ : ∃ p, permB x.1.b bay = p := ⟨_, rfl⟩
  rw [hpb] at HP
  have HXb : Hid ((l.map (fun z : Va => z.1))[i]!.b = x.1.b) := Lib.hid (by rw [map_at l (by omega), hx])
  obtain ⟨xb, hxb⟩ : ∃ xb, x.1.b = xb := ⟨_, rfl⟩
  rw [hxb] at HP HXb
  clear hB hi hd hb hx hxz hy hln hpb hxb
  go_enter Tryd.func10, Tryd.ntmps10
  cases pb with
  | false =>
    go_wp2_with (first
      | (go_at_call 18; go_loud (refine HI.out.mono ?_; rintro e w1 ⟨rfl, hb1⟩; have HB1 := Lib.hid hb1; have hL1 := HBd.out.below hb1; have cg := hL1.a.cell; rw [List.length_map, HL.out] at cg; obtain ⟨b, hA, hgb, hbl, q0, q1, q2, q3, q4, qf⟩ := hL1.a.at_ (i := i) (by rw [List.length_map, HL.out]; exact HLt.out); rw [HXb.out] at q4; subst hA; clear hb1 hL1))
      | (go_at_call 20; go_loud (refine (HN.out _).mono ?_; rintro e w2 ⟨rfl, rfl⟩))
      | (go_at_call 21; go_loud (refine (HP.out _).mono ?_; rintro e w2 ⟨rfl, rfl⟩)))
    go_ret
    exact ⟨11, l, rfl, HBd.out.below HB1.out, HB1.out.mono (Nat.le_of_lt hgl), off_below HB1.out, rfl⟩
  | true =>
    go_wp2_with (first
      | (go_at_call 18; go_loud (refine HI.out.mono ?_; rintro e w1 ⟨rfl, hb1⟩; have HB1 := Lib.hid hb1; have hL1 := HBd.out.below hb1; have cg := hL1.a.cell; rw [List.length_map, HL.out] at cg; obtain ⟨b, hA, hgb, hbl, q0, q1, q2, q3, q4, qf⟩ := hL1.a.at_ (i := i) (by rw [List.length_map, HL.out]; exact HLt.out); rw [HXb.out] at q4; subst hA; clear hb1 hL1))
      | (go_at_call 20; go_loud (refine (HN.out _).mono ?_; rintro e w2 ⟨rfl, rfl⟩))
      | (go_at_call 21; go_loud (refine (HP.out _).mono ?_; rintro e w2 ⟨rfl, rfl⟩))
      | (go_at_call 19; go_loud (refine (HF.out _ _ HB1.out).mono ?_; rintro e w3 ⟨rfl, hb3⟩; have HB3 := Lib.hid (HB1.out.trans (hb3.mono HB1.out.size)); have cg3 := (hb3.cell (p := ⟨g, 0, none⟩) (Nat.lt_of_lt_of_le hgl HB1.out.size)).trans cg; have r4 := (hb3.cell (p := ⟨b, i * 5 + 4, none⟩) hbl).trans q4; have f4 := (hb3.frozen (p := ⟨b, i * 5 + 4, none⟩) hbl).trans (qf _); clear hb3)))
    go_ret
    have hL3 := HBd.out.below HB3.out
    have hne : g ≠ b := by omega
    have hO := hL3.2
    rw [HL.out] at hO
    have hos := own_bay hO HL.out i HLt.out y (by rw [HX.out, HY.out])
    rw [show y.1.b = bay by rw [HY.out]] at hos
    refine ⟨0, l.set i y, rfl, ⟨?_, ?_⟩, ?_, ?_, ?_⟩
    · rw [List.length_set]; exact (heap_setCell_other _ _ _ _ hne).trans hL3.1
    · rw [List.length_set, HL.out]; exact hos
    · exact (HB3.out.mono (Nat.le_of_lt hgl)).setCell (p := ⟨b, i * 5 + 4, none⟩) (Nat.le_of_lt hgb) _
    · intro k hk hkg hka
      have hkb : k ≠ b := fun e => hka _ rfl e.symm
      exact (heap_setCell_other _ _ _ _ hkb).trans (HB3.out.block k hk)
    · rw [List.map_set]
      have e : y.1.c = (l.map (fun z : Va => z.1.c))[i]'(by rw [List.length_map, HL.out]; exact HLt.out) := by
        rw [List.getElem_map]
        have h9 := HX.out
        rw [getElem!_pos l i (by rw [HL.out]; exact HLt.out)] at h9
        rw [h9, HY.out]
      rw [e, List.set_getElem_self]

theorem Move_any {g c : Nat} {A : Option Addr} {l : List Va} {s : ByteArray} {bay : Int} {w : World} (hB : BdV g A c l w) (hn : l.length ≤ 15) (hb : 0 ≤ bay ∧ bay ≤ 3) :
    Calls Tryd.prog 10 #[.pointer (some ⟨g, 0, none⟩), .string s, .int .i64 bay] w (MvP g A c l w) := by
  rcases idx_cases l s with ⟨j, h1, h2, h3⟩ | ⟨h1, _⟩
  · exact Move_at hB hn hb j h1 h2
  · exact Move_none hB hn hb h1
end Go.Proofs.YtadhkncilokdjaaDoor
