/- Package standby: all is sent again and delivered in order; the messages of an earlier term. -/
import Derived.Test.YthlmejkkdmfkhaaA12
namespace Go.Proofs.Ythlmejkkdmfkhaa

/-- What is still on its way: k entries from e on, then acknowledgements. -/
structure Way (j : Nat) (p : Pr) (e k : Nat) (A : List Msg) : Prop where
  ws : p.ws = (List.range k).map (fun i => entry p (e + i)) ++ A
  cnt : j + 2 * k + A.length ≤ 128
  len : k + A.length ≤ 64
  ek : e + k = p.ps.length
  es : e ≤ p.ss.length
  ac : ∀ m ∈ A, m.ack = true ∧ m.term = p.term
  la : ∀ m, A.getLast? = some m → m.num = (p.ss.length : Int)
  no : k = 0 → A = [] → p.done = (p.ps.length : Int)

section
variable {T : Int} {p : Pr}
theorem Way.start (hw : Wf T p) (h0 : p.ws = []) : Way 0 p.resend p.done.toNat p.left [] ∧ p.pushE (p.todo p.left) = 0 := by
  have h1 := hw.d0; have h2 := hw.ds; have h3 := hw.sp; have h4 := hw.p64
  have hl : p.left + p.done.toNat = p.ps.length := by unfold Pr.left; omega
  have hlen : (p.todo p.left).length = p.left := by simp [Pr.todo]
  have hfit : p.ws.length + (p.todo p.left).length ≤ 64 := by rw [h0, hlen]; simp; omega
  have hr : p.resend = { p with ws := p.todo p.left } := by
    unfold Pr.resend Pr.push
    rw [if_pos hfit, h0]; rfl
  refine ⟨?_, by unfold Pr.pushE; rw [if_pos hfit]⟩
  rw [hr]
  refine ⟨?_, by simp; omega, by simp; omega, by show p.done.toNat + p.left = p.ps.length; omega, by show p.done.toNat ≤ p.ss.length; omega, fun m hm => (by cases hm), fun m hm => (by cases hm), fun hk _ => by show p.done = (p.ps.length : Int); omega⟩
  show p.todo p.left = _ ++ []
  rw [List.append_nil]; rfl
theorem Way.none {j e k : Nat} {A : List Msg} (h : Way j p e k A) (h0 : p.ws = []) : k = 0 ∧ A = [] := by
  have := h.ws
  rw [h0] at this
  have h2 := congrArg List.length this
  simp at h2
  exact ⟨by omega, List.eq_nil_of_length_eq_zero (by omega)⟩
theorem Way.fin {j e k : Nat} {A : List Msg} (hw : Wf T p) (h : Way j p e k A) (h0 : p.ws = []) : p.ss = p.ps ∧ p.done = (p.ps.length : Int) ∧ p.ans = (p.ps.length : Int) := by
  obtain ⟨rfl, rfl⟩ := h.none h0
  have h1 := h.ek; have h2 := h.es; have h3 := hw.sp; have h4 := hw.da; have h5 := hw.ap
  have h6 := h.no rfl rfl
  exact ⟨hw.pre.eq_of_length (by omega), h6, by omega⟩
theorem Way.step {j e k : Nat} {A : List Msg} (hw : Wf T p) (h : Way j p e k A) (h0 : 0 < p.ws.length) : ∃ e' k' A', Way (j + 1) (p.deliver 0) e' k' A' ∧ p.deliverE 0 = 0 := by
  have hwd := hw.deliver 0
  have hE : p.deliverE 0 = 0 := by unfold Pr.deliverE; rw [if_pos h0]
  have hD : p.deliver 0 = (p.take 0).get p.ws[0]! := by unfold Pr.deliver; rw [if_pos h0]
  have hcnt := h.cnt; have hlen := h.len; have hek := h.ek; have hes := h.es
  cases k with
  | succ k =>
    have hws := h.ws
    rw [List.range_succ_eq_map, List.map_cons, List.cons_append, List.map_map] at hws
    have hm : p.ws[0]! = entry p e := by rw [hws]; simp
    have ht : (p.take 0).ws = (List.range k).map (fun i => entry p (e + 1 + i)) ++ A := by
      show p.ws.eraseIdx 0 = _
      rw [hws]
      show (List.map _ _ ++ A) = _
      congr 1
      apply List.map_congr_left
      intro i _
      show entry p (e + (i + 1)) = entry p (e + 1 + i)
      rw [show e + (i + 1) = e + 1 + i by omega]
    have hb : (p.take 0).get (entry p e) = ((p.take 0).note (entry p e)).push [ackOf ((p.take 0).note (entry p e))] := by
      unfold Pr.get
      rw [if_neg (by show ¬ p.term < p.term; omega), if_neg (by show ¬ false = true; simp)]
    obtain ⟨n1, n2, n3, n4, n5, n6⟩ := note_sub (p.take 0) (entry p e)
    have hss : e + 1 ≤ ((p.take 0).note (entry p e)).ss.length := by
      unfold Pr.note
      split
      · rename_i hn
        show e + 1 ≤ (p.ss ++ [_]).length
        simp; omega
      · rename_i hn
        have hn : ¬ ((e : Int) + 1 = (p.ss.length : Int) + 1) := hn
        show e + 1 ≤ p.ss.length
        omega
    generalize hq : (p.take 0).note (entry p e) = q at *
    have hqw : q.ws = (List.range k).map (fun i => entry p (e + 1 + i)) ++ A := n4.trans ht
    have hfit : q.ws.length + [ackOf q].length ≤ 64 := by rw [hqw]; simp; omega
    have hpush : q.push [ackOf q] = { q with ws := q.ws ++ [ackOf q] } := by unfold Pr.push; rw [if_pos hfit]
    rw [hm, hb, hpush] at hD
    have hps : q.ps = p.ps := n2
    have htm : q.term = p.term := n5
    refine ⟨e + 1, k, A ++ [ackOf q], ?_, hE⟩
    rw [hD]
    refine ⟨?_, by simp; omega, by simp; omega, by show e + 1 + k = q.ps.length; rw [hps]; omega, hss, fun m hm => ?_, fun m hm => ?_, fun _ hA => by simp at hA⟩
    · show q.ws ++ [ackOf q] = _
      rw [hqw, List.append_assoc]
      congr 1
      apply List.map_congr_left
      intro i _
      unfold entry textAt
      simp only [hps, htm]
    · rcases List.mem_append.1 hm with hm | hm
      · have := h.ac m hm
        exact ⟨this.1, this.2.trans htm.symm⟩
      · rcases List.mem_singleton.1 hm with rfl
        exact ⟨rfl, rfl⟩
    · simp at hm
      subst hm
      rfl
  | zero =>
    have hws := h.ws
    simp at hws
    cases A with
    | nil => rw [hws] at h0; simp at h0
    | cons m A =>
      obtain ⟨a1, a2⟩ := h.ac m (by simp)
      have hm : p.ws[0]! = m := by rw [hws]; simp
      have hb : (p.take 0).get m = (p.take 0).acked m := by
        unfold Pr.get
        rw [if_neg (by show ¬ m.term < p.term; omega), if_pos a1]
      rw [hm, hb] at hD
      have hsp := hw.sp
      refine ⟨e, 0, A, ?_, hE⟩
      rw [hD] at hwd ⊢
      refine ⟨?_, by simp at hcnt ⊢; omega, by simp at hlen ⊢; omega, hek, hes, fun x hx => h.ac x (by simp [hx]), fun x hx => ?_, fun _ hA => ?_⟩
      · show p.ws.eraseIdx 0 = _
        rw [hws]; simp
      · have := h.la x (by rw [List.getLast?_cons]; rw [hx]; rfl)
        exact this
      · subst hA
        have h1 := h.la m (by simp)
        have h2 := hwd.ds
        have h3 : max p.done m.num ≤ (p.ss.length : Int) := h2
        show max p.done m.num = (p.ps.length : Int)
        omega

/-- All messages are of an earlier term. -/
def Late (p : Pr) : Prop := ∀ m ∈ p.ws, m.term < p.term
theorem late_over (hw : Wf T p) : Late p.over := fun m hm => by
  have h : m.term ≤ p.term := (hw.ms m hm).2.1
  show m.term < p.term + 1
  omega
theorem late_step (h : Late p) (h0 : 0 < p.ws.length) : p.deliver 0 = p.take 0 ∧ p.deliverE 0 = 0 ∧ Late (p.take 0) ∧ (p.take 0).ws.length + 1 = p.ws.length := by
  have hm : p.ws[0]! ∈ p.ws := by rw [getElem!_pos p.ws 0 h0]; exact List.getElem_mem h0
  refine ⟨?_, by unfold Pr.deliverE; rw [if_pos h0], fun m hm => h m (List.mem_of_mem_eraseIdx hm), ?_⟩
  · unfold Pr.deliver
    rw [if_pos h0]
    unfold Pr.get
    rw [if_pos (show p.ws[0]!.term < (p.take 0).term from h _ hm)]
  · show (p.ws.eraseIdx 0).length + 1 = _
    rw [List.length_eraseIdx, if_pos h0]; omega
end
end Go.Proofs.Ythlmejkkdmfkhaa
