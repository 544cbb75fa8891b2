/- Plain law: what holds for all flights of a centre, and for two of them, whatever is given. -/
import Derived.Test.YtaebebpldkciiaaGreatDoorQG08
namespace Go.Proofs.YtaebebpldkciiaaGreatDoor
open Go.RowKit
structure Pw (one : Fl → Prop) (two : Fl → Fl → Prop) (l : List Fl) : Prop where
 o : ∀ f ∈ l, one f
 t : ∀ f ∈ l, ∀ g ∈ l, f.call ≠ g.call → two f g
section
variable {one : Fl → Prop} {two : Fl → Fl → Prop} {l l' : List Fl}
theorem Pw.nil : Pw one two [] := ⟨fun f h => absurd h (by simp), fun f h => absurd h (by simp)⟩
theorem Pw.sub (h : Pw one two l) (hm : ∀ g ∈ l', g ∈ l) : Pw one two l' := ⟨fun f hf => h.o f (hm f hf), fun f hf g hg hn => h.t f (hm f hf) g (hm g hg) hn⟩
theorem Pw.put (h : Pw one two l) {f' : Fl} (hm : ∀ g ∈ l', g = f' ∨ g ∈ l) (h1 : one f') (h2 : ∀ g ∈ l, g.call ≠ f'.call → two f' g ∧ two g f') : Pw one two l' := by
 refine ⟨fun f hf => ?_, fun f hf g hg hn => ?_⟩
 ·rcases hm f hf with rfl | hf
  ·exact h1
  ·exact h.o f hf
 ·rcases hm f hf with rfl | hf
  ·rcases hm g hg with rfl | hg
   ·exact absurd rfl hn
   ·exact (h2 g hg (fun e => hn e.symm)).1
  ·rcases hm g hg with rfl | hg
   ·exact (h2 f hf hn).2
   ·exact h.t f hf g hg hn
end
theorem mem_insF {l : List Fl} {p : Nat} {f g : Fl} (h : g ∈ insF l p f) : g = f ∨ g ∈ l := by
 unfold insF at h
 rcases List.mem_append.1 h with h | h
 ·exact .inr (List.mem_of_mem_take h)
 ·rcases List.mem_cons.1 h with h | h
  ·exact .inl h
  ·exact .inr (List.mem_of_mem_drop h)
theorem mem_setL {l : List Fl} {p : Nat} {f g : Fl} (h : g ∈ l.set p f) : g = f ∨ g ∈ l := by
 rcases List.mem_or_eq_of_mem_set h with h | h
 ·exact .inr h
 ·exact .inl h
theorem flOf_call {c : Ce} (h : CeOk c) {x : Inp} (hi : isO c.ow x.call = true) : (flOf c x).call = x.call := by
 obtain ⟨hp, _, _⟩ := flOf_mem h hi
 have h1 := isO_spec hi
 have h2 := congrArg (fun l => l[lowO c.ow x.call]?) h.calls
 simp only [List.getElem?_map] at h2
 rw [List.getElem?_eq_getElem hp, List.getElem?_eq_getElem h1.1] at h2
 simp only [Option.map_some, Option.some.injEq] at h2
 unfold flOf
 rw [getElem!_pos c.fl _ hp, h2, ← getElem!_pos c.ow _ h1.1]
 exact h1.2
theorem step_pw {S : Su} {c : Ce} (hc : CeOk c) (ks : Nat → ByteArray) (x : Inp) {one : Fl → Prop} {two : Fl → Fl → Prop} (h : Pw one two c.fl)
  (hfile : fileE S c x = 0 → one (newF S c x) ∧ ∀ g ∈ c.fl, g.call ≠ x.call → two (newF S c x) g ∧ two g (newF S c x))
  (hclear : clearE S c x = 0 → FlOk (flOf c x) → one (flOf c x) → one (clearF S c x) ∧ ∀ g ∈ c.fl, g.call ≠ x.call → two (flOf c x) g → two g (flOf c x) → two (clearF S c x) g ∧ two g (clearF S c x))
  (hhear : hearE c x = 0 → FlOk (flOf c x) → one (flOf c x) → one (hearF c x) ∧ ∀ g ∈ c.fl, g.call ≠ x.call → two (flOf c x) g → two g (flOf c x) → two (hearF c x) g ∧ two g (hearF c x))
  (hrefuse : refuseE c x = 0 → FlOk (flOf c x) → one (flOf c x) → one (refuseF c x) ∧ ∀ g ∈ c.fl, g.call ≠ x.call → two (flOf c x) g → two g (flOf c x) → two (refuseF c x) g ∧ two g (refuseF c x)) :
  Pw one two (stepP ks S c x).1.fl := by
 have hset : ∀ {f' : Fl}, isO c.ow x.call = true → f'.call = (flOf c x).call → (one (flOf c x) → one f' ∧ ∀ g ∈ c.fl, g.call ≠ x.call → two (flOf c x) g → two g (flOf c x) → two f' g ∧ two g f') → Pw one two (c.fl.set (lowO c.ow x.call) f') := fun {f'} hi he hk => by
  obtain ⟨hp, hm, hf⟩ := flOf_mem hc hi
  have hcl := flOf_call hc hi
  obtain ⟨k1, k2⟩ := hk (h.o _ hm)
  refine h.put (fun g hg => mem_setL hg) k1 fun g hg hn => ?_
  rw [he, hcl] at hn
  exact k2 g hg hn (h.t _ hm _ hg (by rw [hcl]; exact fun e => hn e.symm)) (h.t _ hg _ hm (by rw [hcl]; exact hn))
 have hm : Pw one two (methP S c x).1.fl := by
  unfold methP
  split
  ·split
   ·rename_i h1
    have h2 := hfile h1
    exact h.put (fun g hg => mem_insF hg) h2.1 h2.2
   ·exact h
  split
  ·exact h
  split
  ·exact h
  split
  ·split
   ·rename_i h1
    have h2 := clearE_zero h1
    exact hset h2.1 rfl (hclear h1 (flOf_mem hc h2.1).2.2)
   ·exact h
  split
  ·split
   ·rename_i h1
    have h2 := hearE_zero h1
    exact hset h2.1 rfl (hhear h1 (flOf_mem hc h2.1).2.2)
   ·exact h
  split
  ·split
   ·rename_i h1
    have h2 := refuseE_zero h1
    exact hset h2.1 rfl (hrefuse h1 (flOf_mem hc h2.1).2.2)
   ·exact h
  split
  ·exact h.sub fun g hg => mem_delL hg
  ·exact h
 unfold stepP
 split
 ·exact h
 split
 ·exact h
 split
 ·exact hm
 ·exact h
def lastL (f : Fl) : Tu := f.legs[f.legs.length - 1]!
def timesP (f : Fl) (t : Int) : Prop := t = f.land ∨ (0 < f.next.length ∧ t = f.nland)
structure LandOne (f : Fl) : Prop where
 no : f.lands = false → f.land = 0 ∧ f.nland = 0
 l1 : f.lands = true → lstT (lastL f) ≤ f.land ∧ f.land ≤ f.slot
 l2 : f.lands = true → f.nland ≤ f.slot
 l3 : f.lands = true → 0 < f.next.length → lstT f.next ≤ f.nland
def LandTwo (S : Su) (f g : Fl) : Prop := f.lands = true → g.lands = true → ∀ t u, timesP f t → timesP g u → nearU S g.wake.toNat f.wake.toNat t u = false
theorem nearU_symm (S : Su) (a b : Nat) (t u : Int) : nearU S a b t u = nearU S b a u t := by unfold nearU; rw [Bool.and_comm]
theorem freeP_at {S : Su} {fl : List Fl} {call : ByteArray} {k : Nat} {t : Int} (h : freeP S fl call k t = true) {g : Fl} (hg : g ∈ fl) (hn : g.call ≠ call) (hl : g.lands = true) {u : Int} (hu : timesP g u) : nearU S g.wake.toNat k t u = false := by
 unfold freeP at h
 rw [Bool.not_eq_true', List.any_eq_false] at h
 have h1 := h g hg
 unfold nearF at h1
 rw [hl, decide_eq_false hn] at h1
 simp only [Bool.not_false, Bool.true_and, Bool.or_eq_true, Bool.and_eq_true, decide_eq_true_eq, not_or, not_and, Bool.not_eq_true] at h1
 rcases hu with rfl | ⟨h0, rfl⟩
 ·exact h1.1
 ·exact h1.2 h0
theorem land_two {S : Su} {f g : Fl} (h : ∀ t u, f.lands = true → g.lands = true → timesP f t → timesP g u → nearU S g.wake.toNat f.wake.toNat t u = false) : LandTwo S f g ∧ LandTwo S g f :=
 ⟨fun h1 h2 t u h3 h4 => h t u h1 h2 h3 h4, fun h1 h2 t u h3 h4 => by rw [nearU_symm]; exact h u t h2 h1 h4 h3⟩
theorem step_land {S : Su} (hS : SuOk S) {c : Ce} (hc : CeOk c) (ks : Nat → ByteArray) (x : Inp) (h : Pw LandOne (LandTwo S) c.fl) : Pw LandOne (LandTwo S) (stepP ks S c x).1.fl := by
 have hfree : ∀ {wk : Int} {l : Tu}, (0 ≤ wk ∧ wk ≤ 3) → TuOk l → freeP S c.fl x.call wk.toNat (landP S c.fl x.call wk l) = true := fun {wk l} hw hl => by
  obtain ⟨j, h1, h2, h3, _⟩ := landP_spec hS hc.fl x.call hw hl.lst0 hl.lst1
  rw [h2]; exact h3
 refine step_pw hc ks x h (fun h1 => ?_) (fun h1 hf h2 => ?_) (fun h1 hf h2 => ?_) (fun h1 hf h2 => ?_)
 ·obtain ⟨k1, k2, k3, k4, k5, k6, k7, k8⟩ := fileE_zero h1
  refine ⟨⟨fun hl => ?_, fun hl => ?_, fun hl => ?_, fun hl h0 => absurd h0 (by simp [newF])⟩, fun g hg hn => ?_⟩
  ·have hl' : x.lands = false := hl
   simp [newF, hl']
  ·have hl' : x.lands = true := hl
   have := landP_ge S c.fl x.call x.wake x.tube
   have := k8 hl'
   simp only [newF, lastL, if_pos hl']
   exact ⟨by simpa using landP_ge S c.fl x.call x.wake x.tube, this⟩
  ·show (0 : Int) ≤ x.slot
   exact k4.1
  ·refine land_two fun t u hl1 hl2 ht hu => ?_
   have hl' : x.lands = true := hl1
   rcases ht with rfl | ⟨h0, _⟩
   ·have hx : (newF S c x).land = landP S c.fl x.call x.wake x.tube := by simp only [newF, if_pos hl']
    rw [hx]
    exact freeP_at (hfree k3 k2) hg hn hl2 hu
   ·exact absurd h0 (by simp [newF])
 ·obtain ⟨k1, k2, k3, k4, k5, k6, k7, k8, k9, k10⟩ := clearE_zero h1
  refine ⟨⟨fun hl => ?_, fun hl => h2.l1 hl, fun hl => ?_, fun hl h0 => ?_⟩, fun g hg hn t1 t2 => ?_⟩
  ·have hl' : (flOf c x).lands = false := hl
   exact ⟨(h2.no hl').1, by simp [clearF, hl']⟩
  ·have hl' : (flOf c x).lands = true := hl
   simp only [clearF, if_pos hl']
   exact k10 hl'
  ·have hl' : (flOf c x).lands = true := hl
   simp only [clearF, if_pos hl']
   exact landP_ge _ _ _ _ _
  ·refine land_two fun t u hl1 hl2 ht hu => ?_
   have hl' : (flOf c x).lands = true := hl1
   rcases ht with rfl | ⟨h0, rfl⟩
   ·exact t1 hl1 hl2 _ u (.inl rfl) hu
   ·have hx : (clearF S c x).nland = landP S c.fl x.call (flOf c x).wake x.tube := by simp only [clearF, if_pos hl']
    rw [hx]
    exact freeP_at (hfree hf.wk k5) hg hn hl2 hu
 ·obtain ⟨k1, k2, k3⟩ := hearE_zero h1
  refine ⟨⟨fun hl => ⟨(h2.no hl).2, rfl⟩, fun hl => ⟨?_, h2.l2 hl⟩, fun hl => ?_, fun hl h0 => absurd h0 (by simp [hearF])⟩, fun g hg hn t1 t2 => ?_⟩
  ·have e : lastL (hearF c x) = (flOf c x).next := by
    unfold lastL hearF
    simp only [List.length_append, List.length_singleton, Nat.add_sub_cancel]
    rw [snoc_at, if_pos rfl]
   rw [e]
   exact h2.l3 hl k2
  ·show (0 : Int) ≤ (flOf c x).slot
   exact hf.sl.1
  ·refine land_two fun t u hl1 hl2 ht hu => ?_
   rcases ht with rfl | ⟨h0, _⟩
   ·exact t1 hl1 hl2 _ u (.inr ⟨k2, rfl⟩) hu
   ·exact absurd h0 (by simp [hearF])
 ·refine ⟨⟨fun hl => ⟨(h2.no hl).1, rfl⟩, fun hl => h2.l1 hl, fun hl => ?_, fun hl h0 => absurd h0 (by simp [refuseF])⟩, fun g hg hn t1 t2 => ?_⟩
  ·show (0 : Int) ≤ (flOf c x).slot
   exact hf.sl.1
  ·refine land_two fun t u hl1 hl2 ht hu => ?_
   rcases ht with rfl | ⟨h0, _⟩
   ·exact t1 hl1 hl2 _ u (.inl rfl) hu
   ·exact absurd h0 (by simp [refuseF])
def SafeTwo (S : Su) (f g : Fl) : Prop := ∀ t n m, n ∈ placesP f t → m ∈ placesP g t → sepN n m S.lat S.vert = true
theorem sepN_symm (p q : Nd) (a b : Int) : sepN p q a b = sepN q p a b := by
 unfold sepN sqI
 rw [show a + p.r + q.r = a + q.r + p.r by omega, show b + p.b + q.b = b + q.b + p.b by omega, Int.max_comm (p.h - q.h), show p.x - q.x = -(q.x - p.x) by omega, show p.y - q.y = -(q.y - p.y) by omega, Int.neg_mul_neg, Int.neg_mul_neg]
theorem safe_two {S : Su} {f g : Fl} (h : ∀ t n m, n ∈ placesP f t → m ∈ placesP g t → sepN n m S.lat S.vert = true) : SafeTwo S f g ∧ SafeTwo S g f :=
 ⟨h, fun t n m hn hm => by rw [sepN_symm]; exact h t m n hm hn⟩
theorem nodeAt_mem {l : Tu} {t : Int} {n : Nd} (h : n ∈ nodeAt l t) : TuOk l ∧ fstT l ≤ t ∧ t ≤ lstT l ∧ n = atN l t := by
 unfold nodeAt at h
 by_cases h0 : (tubeAt l t).2 = 0
 ·rw [if_pos h0, List.mem_singleton] at h
  unfold tubeAt at h0 h
  by_cases h1 : tuE l ≠ 0
  ·rw [if_pos h1] at h0; exact absurd h0 h1
  ·rw [if_neg h1] at h0 h
   by_cases h2 : t < fstT l ∨ lstT l < t
   ·rw [if_pos h2] at h0; cases h0
   ·rw [if_neg h2] at h
    exact ⟨tuOk_of (by omega), by omega, by omega, h⟩
 ·rw [if_neg h0] at h; cases h
theorem clash_no {S : Su} {fl : List Fl} {call : ByteArray} {l : Tu} (h : clashP S fl call l = false) {g : Fl} (hg : g ∈ fl) (hn : g.call ≠ call) {t : Int} {n m : Nd} (h1 : n ∈ nodeAt l t) (h2 : m ∈ placesP g t) : sepN n m S.lat S.vert = true := by
 obtain ⟨hl, k0, k1, rfl⟩ := nodeAt_mem h1
 unfold clashP at h
 rw [List.any_eq_false] at h
 have hs : atN l t ∈ secs l := by
  unfold secs
  rw [List.mem_map]
  refine ⟨(t - fstT l).toNat, List.mem_range.2 (by omega), ?_⟩
  rw [show fstT l + (((t - fstT l).toNat : Nat) : Int) = t by omega]
 have h3 := h _ hs
 rw [Bool.not_eq_true, List.any_eq_false] at h3
 have h4 := h3 g hg
 unfold hitsF at h4
 rw [decide_eq_false hn, (atN_ok hl k0 k1).2] at h4
 simp only [Bool.not_false, Bool.true_and, Bool.not_eq_true, List.any_eq_false] at h4
 have h5 := h4 m h2
 simpa using h5
theorem legP_cons_snoc (a : List Tu) (b : Tu) (t : Int) : legP (a ++ [b]) t = if fstT b ≤ t then nodeAt b t else legP a t := by
 unfold legP
 rw [List.reverse_append]
 simp only [List.reverse_cons, List.reverse_nil, List.nil_append, List.cons_append, List.find?_cons]
 by_cases h : fstT b ≤ t
 ·rw [if_pos h, decide_eq_true h]
 ·rw [if_neg h, decide_eq_false h]
theorem nodeAt_nil (t : Int) : nodeAt [] t = [] := rfl
theorem step_safe {S : Su} {c : Ce} (hc : CeOk c) (ks : Nat → ByteArray) (x : Inp) (h : Pw (fun _ => True) (SafeTwo S) c.fl) : Pw (fun _ => True) (SafeTwo S) (stepP ks S c x).1.fl := by
 refine step_pw hc ks x h (fun h1 => ⟨trivial, fun g hg hn => ?_⟩) (fun h1 hf h2 => ⟨trivial, fun g hg hn t1 t2 => ?_⟩) (fun h1 hf h2 => ⟨trivial, fun g hg hn t1 t2 => ?_⟩) (fun h1 hf h2 => ⟨trivial, fun g hg hn t1 t2 => ?_⟩)
 ·obtain ⟨k1, k2, k3, k4, k5, k6, k7, k8⟩ := fileE_zero h1
  refine safe_two fun t n m hn1 hm1 => ?_
  have hn2 : n ∈ nodeAt x.tube t := by
   unfold placesP newF at hn1
   rw [nodeAt_nil, List.append_nil] at hn1
   rw [show ([x.tube] : List Tu) = [] ++ [x.tube] from rfl, legP_cons_snoc] at hn1
   split at hn1
   ·exact hn1
   ·cases hn1
  exact clash_no k7 hg hn hn2 hm1
 ·obtain ⟨k1, k2, k3, k4, k5, k6, k7, k8, k9, k10⟩ := clearE_zero h1
  refine safe_two fun t n m hn1 hm1 => ?_
  unfold placesP clearF at hn1
  rcases List.mem_append.1 hn1 with hn1 | hn1
  ·exact t1 t n m (by unfold placesP; exact List.mem_append_left _ hn1) hm1
  ·exact clash_no k9 hg hn hn1 hm1
 ·refine safe_two fun t n m hn1 hm1 => ?_
  refine t1 t n m ?_ hm1
  unfold placesP hearF at hn1
  simp only at hn1
  rw [nodeAt_nil, List.append_nil, legP_cons_snoc] at hn1
  unfold placesP
  split at hn1
  ·exact List.mem_append_right _ hn1
  ·exact List.mem_append_left _ hn1
 ·refine safe_two fun t n m hn1 hm1 => ?_
  refine t1 t n m ?_ hm1
  unfold placesP refuseF at hn1
  simp only at hn1
  rw [nodeAt_nil, List.append_nil] at hn1
  unfold placesP
  exact List.mem_append_left _ hn1
end Go.Proofs.YtaebebpldkciiaaGreatDoor
