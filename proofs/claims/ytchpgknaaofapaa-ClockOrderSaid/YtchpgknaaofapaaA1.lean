/- Package clock: events in memory; sent. -/
import Derived.Test.YtchpgknaaofapaaCut
import Derived.Test.YtchpgknaaofapaaSh
import Derived.BigQuiet
import Derived.Deep.QuietTactic
namespace Go.Proofs.Ytchpgknaaofapaa
open Go.RowKit

/-- An event: its site, its kind, its message. -/
abbrev Ev := Int × Int × Int
def evV (x : Ev) : List Value := [.int .i64 x.1, .int .i64 x.2.1, .int .i64 x.2.2]
def isSend (m : Int) (x : Ev) : Bool := x.2.1 == 1 && x.2.2 == m

theorem eg29 : ∀ (args : Array Value) (w : World), (callFunc 29 args).run Try.prog w = .ok (.enter 29 args) w := enters_of Try.func29 (by kernel_rfl) rfl

set_option maxHeartbeats 400000 in
theorem sent1_pred (m : Int) (B : Nat) (w : World) (hB : B < w.heap.size) (hcell : w.cell? ⟨B, 0, none⟩ = some (.int .i64 m)) :
    PredBelow Try.prog 29 #[.pointer (some ⟨B, 0, none⟩)] (fun x : Ev => .agg (evV x).toArray) (isSend m) w := fun W x hb => by
  have hc : W.cell? ⟨B, 0, none⟩ = some (.int .i64 m) := (hb.cell (p := ⟨B, 0, none⟩) hB).trans hcell
  have hBW : B < W.heap.size := Nat.lt_of_lt_of_le hB hb.size
  have hne : B ≠ W.heap.size := by omega
  show Calls Try.prog 29 #[.agg #[.int .i64 x.1, .int .i64 x.2.1, .int .i64 x.2.2], .pointer (some ⟨B, 0, none⟩)] W _
  by_cases h1 : x.2.1 = 1
  · have h1' : (x.2.1 == 1) = true := beq_iff_eq.2 h1
    go_enter Try.func29, Try.ntmps29
    go_wp2
    all_goals (go_ret; exact ⟨by simp [isSend, *], hb.alloc hb.size _⟩)
  · have h1' : (x.2.1 == 1) = false := beq_eq_false_iff_ne.2 h1
    go_enter Try.func29, Try.ntmps29
    go_wp2
    all_goals (go_ret; exact ⟨by simp [isSend, *], hb.alloc hb.size _⟩)

/-- Where the message was sent among the first events; their number if nowhere. -/
def sentN (l : List Ev) (m : Int) : Nat := l.findIdx (isSend m)
def sentI (l : List Ev) (m : Int) : Int := if sentN l m < l.length then (sentN l m : Int) else -1
theorem idx_from (m : Int) : ∀ (l : List Ev) (i : Nat), Lib.idxByFrom (fun _ y => isSend m y) default l i = if l.findIdx (isSend m) < l.length then ((i + l.findIdx (isSend m) : Nat) : Int) else -1
  | [], i => by simp [Lib.idxByFrom]
  | x :: l, i => by
    rw [Lib.idxByFrom, List.findIdx_cons]
    by_cases h : isSend m x = true
    · simp [h]
    · have h' : isSend m x = false := by simpa using h
      rw [idx_from m l (i + 1)]
      simp only [h', Bool.false_eq_true, if_false, cond_false, List.length_cons]
      by_cases h2 : l.findIdx (isSend m) < l.length
      · rw [if_pos h2, if_pos (by omega)]; omega
      · rw [if_neg h2, if_neg (by omega)]
theorem sentI_eq (l : List Ev) (m : Int) : Lib.idxBy (fun _ y => isSend m y) l default = sentI l m := by
  unfold Lib.idxBy sentI sentN
  rw [idx_from]
  simp

/-- The slice holds the events. -/
def EvsAt (w : World) (B : Nat) (A : Option Addr) (l : List Ev) : Prop := Sl w B 3 A l.length (fun i => evV l[i]!)

theorem evs_take {w : World} {B : Nat} {A : Option Addr} {l : List Ev} (h : EvsAt w B A l) (i : Nat) : EvsAt w B A (l.take i) := by
  unfold EvsAt at *
  refine (h.less (m := (l.take i).length) (by simp; omega)).congr fun j hj => ?_
  have h1 : j < i := by simp at hj; omega
  have h2 : j < l.length := by simp at hj; omega
  rw [getElem!_pos l j h2, getElem!_pos (l.take i) j (by simp; omega), List.getElem_take]

set_option maxHeartbeats 1000000 in
theorem sent_any (A : Option Addr) (c : Nat) (l : List Ev) (n : Nat) (hln : l.length = n) (m : Int) (w : World) (hA : EvsAt w w.heap.size A l) (hn : n ≤ maxLen) :
    Calls Try.prog 22 #[.slice A n c, .int .i64 m] w fun e w' => e = .returned (.int .i64 (sentI l m)) ∧ Below w.heap.size w w' := by
  unfold maxLen at hn
  by_cases h0 : n = 0
  · subst h0
    have HL := Lib.hid (List.eq_nil_of_length_eq_zero hln)
    clear hln hA
    go_enter Try.func22, Try.ntmps22
    go_wp2_with go_in
    go_loop [8] (fun k => k = .int .i64 (0 : Nat)) (fun _ => 0)
    case atStart => rfl
    case round =>
      obtain rfl := hrel
      go_wp2
      go_ret
      exact ⟨ret_int (by rw [HL.out]; rfl), (Below.refl _ w).alloc (Nat.le_refl _) _⟩
  · obtain ⟨b, off, rfl, hb, hr⟩ := hA (by omega)
    have hcon := AnyQ.slices_IndexFunc Try.l28 3 Try.isAgg34 Try.sizeOf34 evV (fun _ => rfl) (isSend m) 29 #[.pointer (some ⟨w.heap.size, 0, none⟩)] eg29 b off n c l (w.alloc (.cells #[.int .i64 m] 3))
      (sent1_pred m w.heap.size _ (by simp) (by simp)) (by omega) (by omega) (by simp; omega) (fun j hj i v hi => by
        refine Lib.cell?_alloc_some _ ?_
        exact hr j hj i v hi)
    change Calls Try.prog 28 _ _ _ at hcon
    rw [sentI_eq, List.take_of_length_le (by omega)] at hcon
    have HL := Lib.hid hln
    clear hr hA hln
    generalize sentI l m = r at hcon ⊢
    go_enter Try.func22, Try.ntmps22
    go_wp2_with (go_at_call 28; refine hcon.mono ?_; rintro e w' ⟨rfl, hb'⟩)
    go_ret
    exact ⟨rfl, ((Below.refl _ w).alloc (Nat.le_refl _) _).trans (hb'.mono (by simp))⟩
end Go.Proofs.Ytchpgknaaofapaa
