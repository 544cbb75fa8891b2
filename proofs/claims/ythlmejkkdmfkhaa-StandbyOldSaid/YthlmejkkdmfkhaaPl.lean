/- Package standby: what its operations come to, in plain Lean. -/
import Derived.Lib.Hide
namespace Go.Proofs.Ythlmejkkdmfkhaa

structure Msg where
  term : Int
  num : Int
  ack : Bool
  text : ByteArray

structure Pr where
  ps : List ByteArray
  ss : List ByteArray
  ws : List Msg
  term : Int
  done : Int
  ans : Int

def textAt (p : Pr) (i : Nat) : ByteArray := (p.ps[i]?).getD ByteArray.empty
def entry (p : Pr) (i : Nat) : Msg := ⟨p.term, (i : Int) + 1, false, textAt p i⟩
def Pr.push (p : Pr) (l : List Msg) : Pr := if p.ws.length + l.length ≤ 64 then { p with ws := p.ws ++ l } else p
def Pr.pushE (p : Pr) (l : List Msg) : Int := if p.ws.length + l.length ≤ 64 then 0 else 9
def Pr.subNo (p : Pr) : Bool := decide (p.ps.length = 64) || decide (p.ws.length = 64)
def Pr.add (p : Pr) (t : ByteArray) : Pr := { p with ps := p.ps ++ [t] }
def Pr.submit (p : Pr) (t : ByteArray) : Pr := if p.subNo = true then p else (p.add t).push [entry (p.add t) p.ps.length]
def Pr.todo (p : Pr) (j : Nat) : List Msg := (List.range j).map fun i => entry p (p.done.toNat + i)
def Pr.left (p : Pr) : Nat := p.ps.length - p.done.toNat
def Pr.resend (p : Pr) : Pr := p.push (p.todo p.left)
def Pr.take (p : Pr) (k : Nat) : Pr := { p with ws := p.ws.eraseIdx k }
def ackOf (p : Pr) : Msg := ⟨p.term, (p.ss.length : Int), true, ByteArray.empty⟩
def Pr.note (p : Pr) (m : Msg) : Pr := if m.num = (p.ss.length : Int) + 1 then { p with ss := p.ss ++ [m.text] } else p
def Pr.acked (p : Pr) (m : Msg) : Pr := { p with done := max p.done m.num, ans := max p.ans (max p.done m.num) }
def Pr.get (p : Pr) (m : Msg) : Pr := if m.term < p.term then p else if m.ack = true then p.acked m else (p.note m).push [ackOf (p.note m)]
def Pr.over (p : Pr) : Pr := { p with ps := p.ss, ss := [], term := p.term + 1, done := 0 }

def MsgOk (p : Pr) (m : Msg) : Prop := 0 ≤ m.term ∧ m.term ≤ p.term ∧ 0 ≤ m.num ∧ m.num ≤ 64 ∧ (m.term = p.term → m.ack = true → m.num ≤ (p.ss.length : Int)) ∧ (m.term = p.term → m.ack = false → 1 ≤ m.num ∧ m.num ≤ (p.ps.length : Int) ∧ p.ps[(m.num - 1).toNat]? = some m.text)
structure Wf (T : Int) (p : Pr) : Prop where
  w64 : p.ws.length ≤ 64
  p64 : p.ps.length ≤ 64
  pre : p.ss <+: p.ps
  d0 : 0 ≤ p.done
  ds : p.done ≤ (p.ss.length : Int)
  da : p.done ≤ p.ans
  ap : p.ans ≤ (p.ps.length : Int)
  t1 : 1 ≤ p.term
  tT : p.term ≤ T
  ms : ∀ m ∈ p.ws, MsgOk p m

/-- What has been answered stays. -/
def Ext (p p' : Pr) : Prop := (∀ kn : List ByteArray, kn <+: p.ps → (kn.length : Int) ≤ p.ans → kn <+: p'.ps) ∧ p.ans ≤ p'.ans
theorem Ext.refl (p : Pr) : Ext p p := ⟨fun _ h _ => h, Int.le_refl _⟩
theorem Ext.trans {p q r : Pr} (h1 : Ext p q) (h2 : Ext q r) : Ext p r := ⟨fun kn a b => h2.1 kn (h1.1 kn a b) (Int.le_trans b h1.2), Int.le_trans h1.2 h2.2⟩

section
variable {T : Int} {p : Pr}
theorem Wf.start : Wf 1 ⟨[], [], [], 1, 0, 0⟩ :=
  ⟨by decide, by decide, List.prefix_refl _, by decide, by decide, by decide, by decide, by decide, by decide, fun m hm => by cases hm⟩
theorem Wf.more {T' : Int} (h : Wf T p) (ht : T ≤ T') : Wf T' p := ⟨h.w64, h.p64, h.pre, h.d0, h.ds, h.da, h.ap, h.t1, by have := h.tT; omega, h.ms⟩
theorem Wf.sp (h : Wf T p) : p.ss.length ≤ p.ps.length := h.pre.length_le
theorem Wf.push (h : Wf T p) {l : List Msg} (hl : ∀ m ∈ l, MsgOk p m) : Wf T (p.push l) := by
  unfold Pr.push
  by_cases c : p.ws.length + l.length ≤ 64
  · rw [if_pos c]
    exact ⟨by simp; omega, h.p64, h.pre, h.d0, h.ds, h.da, h.ap, h.t1, h.tT, fun m hm => by
      rcases List.mem_append.1 hm with hm | hm
      · exact h.ms m hm
      · exact hl m hm⟩
  · rw [if_neg c]; exact h
theorem push_ext (p : Pr) (l : List Msg) : Ext p (p.push l) := by
  unfold Pr.push
  split
  · exact ⟨fun _ a _ => a, Int.le_refl _⟩
  · exact Ext.refl p
theorem Wf.add (h : Wf T p) (hp : p.ps.length < 64) (t : ByteArray) : Wf T (p.add t) := by
  refine ⟨h.w64, by simp [Pr.add]; omega, h.pre.trans (List.prefix_append _ _), h.d0, h.ds, h.da, ?_, h.t1, h.tT, fun m hm => ?_⟩
  · have := h.ap
    simp [Pr.add]; omega
  · obtain ⟨a, b, c, d, e, f⟩ := h.ms m hm
    refine ⟨a, b, c, d, e, fun x y => ?_⟩
    obtain ⟨f1, f2, f3⟩ := f x y
    refine ⟨f1, ?_, ?_⟩
    · simp [Pr.add]; omega
    · show (p.ps ++ [t])[(m.num - 1).toNat]? = some m.text
      rw [List.getElem?_append_left (by omega)]; exact f3
theorem add_ext (p : Pr) (t : ByteArray) : Ext p (p.add t) := ⟨fun _ a _ => a.trans (List.prefix_append _ _), Int.le_refl _⟩
theorem entry_ok (h : Wf T p) {i : Nat} (hi : i < p.ps.length) : MsgOk p (entry p i) := by
  have := h.t1
  have := h.p64
  refine ⟨by show 0 ≤ p.term; omega, Int.le_refl _, by show 0 ≤ (i : Int) + 1; omega, by show (i : Int) + 1 ≤ 64; omega, fun _ x => (by cases x), fun _ _ => ⟨by show 1 ≤ (i : Int) + 1; omega, by show (i : Int) + 1 ≤ _; omega, ?_⟩⟩
  show p.ps[((i : Int) + 1 - 1).toNat]? = some (textAt p i)
  rw [show ((i : Int) + 1 - 1).toNat = i by omega]
  unfold textAt
  rw [List.getElem?_eq_getElem hi]; rfl
theorem Wf.submit (h : Wf T p) (t : ByteArray) : Wf T (p.submit t) := by
  unfold Pr.submit
  split
  · exact h
  · rename_i c
    have hp : p.ps.length < 64 := by
      have := h.p64
      unfold Pr.subNo at c
      simp at c
      omega
    have h2 := h.add hp t
    refine h2.push fun m hm => ?_
    rcases List.mem_singleton.1 hm with rfl
    exact entry_ok h2 (by simp [Pr.add])
theorem submit_ext (p : Pr) (t : ByteArray) : Ext p (p.submit t) := by
  unfold Pr.submit
  split
  · exact Ext.refl p
  · exact (add_ext p t).trans (push_ext _ _)
theorem Wf.resend (h : Wf T p) : Wf T p.resend := by
  refine h.push fun m hm => ?_
  obtain ⟨i, hi, rfl⟩ := List.mem_map.1 hm
  have hi := List.mem_range.1 hi
  exact entry_ok h (by unfold Pr.left at hi; omega)
theorem resend_ext (p : Pr) : Ext p p.resend := push_ext _ _
theorem Wf.take (h : Wf T p) (k : Nat) : Wf T (p.take k) :=
  ⟨Nat.le_trans (List.length_eraseIdx_le _ _) h.w64, h.p64, h.pre, h.d0, h.ds, h.da, h.ap, h.t1, h.tT, fun m hm => h.ms m (List.mem_of_mem_eraseIdx hm)⟩
theorem take_ext (p : Pr) (k : Nat) : Ext p (p.take k) := Ext.refl p
theorem Wf.repeat_ (h : Wf T p) {m : Msg} (hm : m ∈ p.ws) : Wf T (p.push [m]) := h.push fun x hx => by
  rcases List.mem_singleton.1 hx with rfl
  exact h.ms _ hm
theorem Wf.acked (h : Wf T p) {m : Msg} (hm : MsgOk p m) (ht : m.term = p.term) (ha : m.ack = true) : Wf T (p.acked m) := by
  obtain ⟨a, b, c, d, e, f⟩ := hm
  have e := e ht ha
  have h1 := h.d0; have h2 := h.ds; have h3 := h.da; have h4 := h.ap; have h5 := h.sp
  refine ⟨h.w64, h.p64, h.pre, ?_, ?_, ?_, ?_, h.t1, h.tT, h.ms⟩
  · show 0 ≤ max p.done m.num; omega
  · show max p.done m.num ≤ (p.ss.length : Int); omega
  · show max p.done m.num ≤ max p.ans (max p.done m.num); omega
  · show max p.ans (max p.done m.num) ≤ (p.ps.length : Int); omega
theorem note_sub (p : Pr) (m : Msg) : p.ss.length ≤ (p.note m).ss.length ∧ (p.note m).ps = p.ps ∧ (p.note m).ans = p.ans ∧ (p.note m).ws = p.ws ∧ (p.note m).term = p.term ∧ (p.note m).done = p.done := by
  unfold Pr.note
  split
  · exact ⟨by simp, rfl, rfl, rfl, rfl, rfl⟩
  · exact ⟨Nat.le_refl _, rfl, rfl, rfl, rfl, rfl⟩
theorem Wf.note (h : Wf T p) {m : Msg} (hm : MsgOk p m) (ht : m.term = p.term) (ha : m.ack = false) : Wf T (p.note m) := by
  obtain ⟨a, b, c, d, e, f⟩ := hm
  obtain ⟨f1, f2, f3⟩ := f ht ha
  unfold Pr.note
  split
  · rename_i hn
    refine ⟨h.w64, h.p64, ?_, h.d0, ?_, h.da, h.ap, h.t1, h.tT, fun x hx => ?_⟩
    · show p.ss ++ [m.text] <+: p.ps
      rw [show (m.num - 1).toNat = p.ss.length by omega] at f3
      obtain ⟨r, hr⟩ := h.pre
      rw [← hr, List.getElem?_append_right (Nat.le_refl _), Nat.sub_self] at f3
      cases r with
      | nil => cases f3
      | cons y r =>
        injection f3 with f3
        rw [← hr, ← f3]
        exact ⟨r, by simp⟩
    · have := h.ds
      simp; omega
    · obtain ⟨a', b', c', d', e', f'⟩ := h.ms x hx
      exact ⟨a', b', c', d', fun u v => by have := e' u v; simp; omega, f'⟩
  · exact h
theorem ack_ok (h : Wf T p) : MsgOk p (ackOf p) := by
  have := h.t1; have := h.sp; have := h.p64
  exact ⟨by show 0 ≤ p.term; omega, Int.le_refl _, by show 0 ≤ (p.ss.length : Int); omega, by show (p.ss.length : Int) ≤ 64; omega, fun _ _ => Int.le_refl _, fun _ x => (by cases x)⟩
theorem MsgOk.take {m : Msg} (hm : MsgOk p m) (k : Nat) : MsgOk (p.take k) m := hm
theorem Wf.get (h : Wf T p) {m : Msg} (hm : MsgOk p m) : Wf T (p.get m) := by
  unfold Pr.get
  by_cases c1 : m.term < p.term
  · rw [if_pos c1]; exact h
  · rw [if_neg c1]
    have ht : m.term = p.term := by have := hm.2.1; omega
    by_cases c2 : m.ack = true
    · rw [if_pos c2]; exact h.acked hm ht c2
    · rw [if_neg c2]
      have h2 := h.note hm ht (by simpa using c2)
      refine h2.push fun x hx => ?_
      rcases List.mem_singleton.1 hx with rfl
      exact ack_ok h2
theorem note_ext (p : Pr) (m : Msg) : Ext p (p.note m) := by
  obtain ⟨_, a, b, _⟩ := note_sub p m
  exact ⟨fun kn x _ => by rw [a]; exact x, by rw [b]; exact Int.le_refl _⟩
theorem get_ext (p : Pr) (m : Msg) : Ext p (p.get m) := by
  unfold Pr.get
  split
  · exact Ext.refl p
  · split
    · exact ⟨fun _ x _ => x, by show p.ans ≤ max p.ans (max p.done m.num); omega⟩
    · exact (note_ext p m).trans (push_ext _ _)
theorem Wf.over (h : Wf T p) (hs : p.ans ≤ (p.ss.length : Int)) : Wf (T + 1) p.over := by
  have h1 := h.sp; have h2 := h.p64; have h3 := h.d0; have h4 := h.da; have h5 := h.t1; have h6 := h.tT
  refine ⟨h.w64, ?_, List.nil_prefix, Int.le_refl _, by show (0 : Int) ≤ (([] : List ByteArray).length : Int); simp, ?_, hs, ?_, ?_, fun m hm => ?_⟩
  · show p.ss.length ≤ 64; omega
  · show 0 ≤ p.ans; omega
  · show 1 ≤ p.term + 1; omega
  · show p.term + 1 ≤ T + 1; omega
  · obtain ⟨a, b, c, d, e, f⟩ := h.ms m hm
    exact ⟨a, by show m.term ≤ p.term + 1; omega, c, d, fun u => (by have u : m.term = p.term + 1 := u; omega), fun u => (by have u : m.term = p.term + 1 := u; omega)⟩
theorem over_ext (h : Wf T p) (hs : p.ans ≤ (p.ss.length : Int)) : Ext p p.over := by
  refine ⟨fun kn a b => ?_, Int.le_refl _⟩
  show kn <+: p.ss
  exact List.prefix_of_prefix_length_le a h.pre (by omega)
end
end Go.Proofs.Ythlmejkkdmfkhaa
