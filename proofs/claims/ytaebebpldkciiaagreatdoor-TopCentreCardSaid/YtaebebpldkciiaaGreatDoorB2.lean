/- Inputs in memory; a centre that is given inputs, one after the other. -/
import Derived.Test.YtaebebpldkciiaaGreatDoorB1
namespace Go.Proofs.YtaebebpldkciiaaGreatDoor
open Go.RowKit

def inV (x : Inp) (h : Hd) : List Value := [.int .i64 x.kind, .int .i64 x.time, .string x.call, .string x.by_, .string x.to_, .slice h.A h.n h.c, .int .i64 x.wake, .int .i64 x.slot, .bool x.lands]
theorem inV_len (x : Inp) (h : Hd) : (inV x h).length = 9 := rfl
/-- An input's texts and tube are not too long. -/
structure InB (x : Inp) : Prop where
  call : x.call.size ≤ maxLen
  by_ : x.by_.size ≤ maxLen
  to_ : x.to_.size ≤ maxLen
  tube : x.tube.length ≤ maxLen
/-- A tube whose block lies below N. -/
def TuN (N : Nat) (h : Hd) (l : Tu) (w : World) : Prop := l.length = h.n ∧ Sl w N 6 h.A h.n (fun i => ndV l[i]!)
theorem TuN.tua {N : Nat} {h : Hd} {l : Tu} {w : World} (k : TuN N h l w) (hN : N ≤ w.heap.size) : TuA h.A h.n l w := ⟨k.1, k.2.more hN⟩
theorem TuN.below {N : Nat} {h : Hd} {l : Tu} {w w' : World} (k : TuN N h l w) (hb : Below N w w') : TuN N h l w' := ⟨k.1, k.2.below hb⟩
/-- A row of inputs below N. -/
structure InsA (N : Nat) (A : Option Addr) (n : Nat) (l : List Inp) (hs : List Hd) (w : World) : Prop where
  ln : l.length = n
  hn : hs.length = n
  row : Sl w N 9 A n (fun i => inV l[i]! hs[i]!)
  tube : ∀ i, i < n → TuN N hs[i]! (l[i]!).tube w
  bd : ∀ i, i < n → InB l[i]!
theorem InsA.below {N n : Nat} {A : Option Addr} {l : List Inp} {hs : List Hd} {w w' : World} (k : InsA N A n l hs w) (hb : Below N w w') : InsA N A n l hs w' :=
  ⟨k.ln, k.hn, k.row.below hb, fun i hi => (k.tube i hi).below hb, k.bd⟩
theorem Kept.mid {F : Nat → Prop} {N1 : Nat} {w w' : World} (hs : w.heap.size ≤ w'.heap.size) (h : ∀ k, N1 ≤ k → k < w.heap.size → w'.heap[k]? = w.heap[k]?) (hF : ∀ b, F b → N1 ≤ b) : Kept F w w' := ⟨hs, fun k hk hf => h k (hF k hf) hk⟩

theorem suE_ok {S : Su} (h : suE S = 0) : SuOk S := by
  unfold suE setE at h
  by_cases h1 : sepE S.lat S.vert ≠ 0
  · rw [if_pos h1] at h; exact absurd h h1
  rw [if_neg h1] at h
  by_cases h2 : gapsOkB S.g = true
  · have h3 := gapsOkB_iff.1 h2
    have h4 : 0 ≤ S.lat ∧ S.lat ≤ 1000000 ∧ 0 ≤ S.vert ∧ S.vert ≤ 60000 := by
      unfold sepE at h1
      by_cases h5 : 0 ≤ S.lat ∧ S.lat ≤ 1000000 ∧ 0 ≤ S.vert ∧ S.vert ≤ 60000
      · exact h5
      · exfalso; apply h1; simp_all
    exact ⟨⟨h4.1, h4.2.1⟩, h4.2.2, fun i hi => by have := h3 i hi; unfold gapOk at this; exact this⟩
  · rw [if_neg h2] at h; cases h

theorem takeIn {A : Option Addr} {c : Nat} (n q : Nat) (hq : q ≤ n) (hn : n ≤ c) (hc : c ≤ maxLen) (hnil : A = none → n = 0 ∧ c = 0) : ∃ A2 c2, (∀ W, (Instr.slice 28 (.slice A n c) none (some (.int .i64 (q : Int))) none).run Tryz.prog W = .ok (.slice A2 q c2) W) ∧ (0 < q → A2 = A) := by
  unfold maxLen at hc
  have h0 : (0 : Int) ≤ (q : Int) := by omega
  have h1 : (q : Int) ≤ (n : Int) := by omega
  have h2 : (n : Int) ≤ (c : Int) := by omega
  have h3 : (q : Int) ≤ (c : Int) := by omega
  have c23 : Tryz.prog.cellsOf 62 = 9 := by kernel_rfl
  cases A with
  | none =>
    obtain ⟨rfl, rfl⟩ := hnil rfl
    obtain rfl : q = 0 := by omega
    refine ⟨none, 0, fun W => ?_, fun h => absurd h (by omega)⟩
    go_simp
  | some a =>
    refine ⟨if c = 0 then some a else some (a.add (0 * 9)), c, fun W => ?_, fun hq0 => ?_⟩
    · go_simp
    · rw [if_neg (by omega)]; simp [Addr.add]
theorem call_enter {P : Program} {f : FuncId} {fn : Func} {c : Code} (hf : P.funcs[f]? = some fn) (hname : (fn.name == "runtime.NumGoroutine") = false) (hb : fn.body = some c) (args : Array Value) (w : World) :
    (callFunc f args).run P w = .ok (.enter f args) w := by
  have h1 : fn.name ≠ "runtime.NumGoroutine" := by simpa using hname
  simp [callFunc, hf, h1, hb]
/-- What stays when the function given to run is called: all below N and all that was made since. -/
structure Mid (N N1 : Nat) (w w' : World) : Prop where
  b : Below N w w'
  m : ∀ k, N1 ≤ k → k < w.heap.size → w'.heap[k]? = w.heap[k]?
theorem Mid.of_below {N N1 : Nat} {w w' : World} (h : Below w.heap.size w w') (hN : N ≤ w.heap.size) : Mid N N1 w w' := ⟨h.mono hN, fun k _ hk => h.block k hk⟩
/-- A function of the program. -/
def FunOk (f : FuncId) : Prop := ∃ (fn : Func) (c : Code), Tryz.prog.funcs[f]? = some fn ∧ (fn.name == "runtime.NumGoroutine") = false ∧ fn.body = some c
/-- What run wants of its function fn, with the captured variables caps: J is what holds behind k inputs. -/
def RunF (ks : Nat → ByteArray) (S : Su) (l : List Inp) (hs : List Hd) (N N1 m fn : Nat) (caps : Array Value) (J : Nat → Ce → (Nat → Prop) → World → Prop) : Prop :=
  ∀ (k : Nat) (c : Ce) (F F' : Nat → Prop) (g : Nat) (wa wb : World), k < m → SuOk S → CeOk c → c.acc ≤ k → J k c F wa → (∀ b, F b → N1 ≤ b) → (∀ b, F' b → N1 ≤ b) → N1 ≤ wa.heap.size → Below N wa wb → CeAt F' g S (stepP ks S c l[k]!).1 wb → Off F wa wb → (∀ b, F' b → F b ∨ wa.heap.size ≤ b) →
  TuA (hs[k]!).A (hs[k]!).n (l[k]!).tube wb →
  Calls Tryz.prog fn (#[.pointer (some ⟨g, 0, none⟩), inpV l[k]! (hs[k]!).A (hs[k]!).n (hs[k]!).c, .int .i64 (stepP ks S c l[k]!).2] ++ caps) wb fun e w' =>
    e = .returned (.bool true) ∧ Mid N N1 wb w' ∧ J (k + 1) (stepP ks S c l[k]!).1 F' w'
/-- What run leaves. -/
def RunP (S : Su) (N m : Nat) (J : Nat → Ce → (Nat → Prop) → World → Prop) (w : World) (e : Ending) (w' : World) : Prop :=
  e = .returned (.bool true) ∧ Below N w w' ∧ (suE S = 0 → ∃ c F, CeOk c ∧ J m c F w')
set_option maxRecDepth 100000 in
set_option maxHeartbeats 16000000 in
theorem run_any (S : Su) (l : List Inp) (hs : List Hd) (N n m : Nat) (A : Option Addr) (cA fn : Nat) (caps : Array Value) (J : Nat → Ce → (Nat → Prop) → World → Prop) (w : World) (ks : Nat → ByteArray)
    (hks : KsAt ks w) (hko : KsOk ks) (hN0 : 0 < N) (hN : N ≤ w.heap.size) (hm : m = min n 14) (hI : InsA N A n l hs w) (hcap : n ≤ cA ∧ cA ≤ maxLen) (hnil : A = none → n = 0 ∧ cA = 0)
    (hJb : ∀ k c F W W', J k c F W → Below W.heap.size W W' → J k c F W') (hJ0 : ∀ F W, Below w.heap.size w W → (∀ b, F b → w.heap.size ≤ b) → J 0 newC F W)
    (hfn : FunOk fn) (hF : RunF ks S l hs N w.heap.size m fn caps J) :
    Calls Tryz.prog 21 #[suA S, .slice A n cA, .func (.func fn) #[] caps] w (RunP S N m J w) := by
  have HN := Lib.hid (fun (W : World) => CNew_any S W)
  have HCk := Lib.hid (fun (W : World) => CCheck_any S.lat S.vert S.g W)
  obtain ⟨V, hV⟩ : ∃ V, w.alloc (suO S) = V := ⟨_, rfl⟩
  have hbV : Below w.heap.size w V := by rw [← hV]; exact (Below.refl _ _).alloc (Nat.le_refl _) _
  have hzV : V.heap.size = w.heap.size + 1 := by rw [← hV, size_al]
  have hgB : V.heap[w.heap.size]? = some (suO S) := by rw [← hV]; exact heap_alloc_new _ _
  unfold suO at hV hgB
  have HGB := Lib.hid hgB
  have HBV := Lib.hid hbV
  have HKS := Lib.hid hks
  have HKO := Lib.hid hko
  have HI := Lib.hid hI
  have HJB := Lib.hid hJb
  have HJ0 := Lib.hid hJ0
  have HF := Lib.hid hF
  have HFun := Lib.hid hfn
  obtain ⟨R, hR⟩ : ∃ R, RunP S N m J w = R := ⟨_, rfl⟩
  have HRe := Lib.hid hR
  have HNs := Lib.hid hN
  have HN0 := Lib.hid hN0
  have HM := Lib.hid hm
  have HNil := Lib.hid hnil
  have HCap := Lib.hid hcap
  rw [hR]
  clear hgB hbV hks hko hI hJb hJ0 hF hfn hR hN0
  obtain ⟨k0, hk0⟩ : ∃ k, suE S = k := ⟨_, rfl⟩
  have HE := Lib.hid hk0
  have hk1 := hk0
  unfold suE at hk0
  rw [hk0] at HCk
  unfold suA at HN ⊢
  unfold setupA at HCk HN ⊢
  unfold NewP at HN
  rw [hk1] at HN
  clear hk0 hk1
  by_cases h0 : k0 = 0
  · subst h0
    have HN' := Lib.hid (fun (W : World) => (HN.out W).mono (by
      rintro e w' (⟨h1, _⟩ | ⟨_, g, h1, ⟨F, h2, h3⟩, h4⟩)
      · exact absurd rfl h1
      · exact ⟨g, h1, ⟨F, h2, h3⟩, h4⟩ : ∀ e w', _ → ∃ g, e = .returned (.tuple #[.pointer (some ⟨g, 0, none⟩), .int .i64 0]) ∧ (∃ F : Nat → Prop, CeAt F g S newC w' ∧ ∀ b, F b → W.heap.size < b) ∧ Below W.heap.size W w'))
    clear HN HCk
    go_enter Tryz.func21, Tryz.ntmps21
    go_upto_region 6 with (first
      | (first | (refine wpList_load_row rfl 27 _ rfl w.heap.size rfl 27 _ (0, 0) _ HGB.out Tryz.underlying27 rfl (by kernel_rfl) ?_) | (refine wpList_load_row_w 27 _ rfl w.heap.size rfl rfl 27 _ (0, 0) _ HGB.out Tryz.underlying27 rfl (by kernel_rfl) ?_))
      | (go_at_call 37; go_loud (refine (HN'.out _).mono ?_; rintro e w1 ⟨g, rfl, ⟨F, hc1, hF1⟩, hb1⟩; have HC1 := Lib.hid hc1; have HF1 := Lib.hid hF1; have HB1 := Lib.hid hb1; clear hc1 hF1 hb1)))
    have hz1 : w.heap.size < w1.heap.size := by have := HB1.out.size; omega
    have hN1 : Below N w w1 := (HBV.out.mono hN).trans (HB1.out.mono (by omega))
    have HN1 := Lib.hid hN1
    have hm14 : m ≤ 14 := by rw [HM.out]; omega
    have hmn : m ≤ n := by rw [HM.out]; omega
    have hmi : min (n : Int) 14 = (m : Int) := by rw [HM.out]; omega
    obtain ⟨A2, c2, hsl, hA2⟩ := takeIn (A := A) (c := cA) n m hmn HCap.out.1 HCap.out.2 HNil.out
    clear hm hN1 hcap hnil
    go_upto_region 7 with (fail)
    have hks1 := HKS.out
    go_loopw [34] (fun s wr => ∃ (k : Nat) (c : Ce) (F : Nat → Prop), k ≤ m ∧ s = .int .i64 (k : Int) ∧ Hid (CeAt F g S c wr ∧ CeOk c ∧ c.acc ≤ k) ∧ Hid (J k c F wr) ∧ Hid (∀ b, F b → w.heap.size ≤ b) ∧ Hid (Below N w wr ∧ w1.heap.size ≤ wr.heap.size)) (fun s _ => m - (intOf s).toNat)
    case atStart =>
      refine ⟨0, newC, F, by omega, rfl, Lib.hid ⟨HC1.out, new_ok, by decide⟩, Lib.hid (HJ0.out F w1 (HBV.out.trans (HB1.out.mono (by omega))) (fun b hb => by have := HF1.out b hb; omega)), Lib.hid (fun b hb => by have := HF1.out b hb; omega), Lib.hid ⟨HN1.out, Nat.le_refl _⟩⟩
    case round =>
      obtain ⟨k, c, F2, hk, rfl, HC, HJ, HFb, HB⟩ := hrel
      obtain ⟨wo, hwo⟩ : ∃ wo : World, wo = wr := ⟨_, rfl⟩
      subst hwo
      have hzr := HB.out.2
      by_cases hlt : k < m
      · have l0 : (0 : Int) ≤ (k : Int) := by omega
        have l1 : (k : Int) < (m : Int) := by omega
        have hkw : IntKind.i64.wrap ((k : Int) + 1) = (k : Int) + 1 := IntWalk.i64_in _ (by omega)
        have hkn : k < n := by omega
        have HIw := Lib.hid (HI.out.below HB.out.1)
        obtain ⟨b, off, hA, hbN, hrow⟩ := HIw.out.row (by omega)
        have hA2' := hA2 (by omega)
        rw [hA] at hA2'
        subst hA2'
        have hr : ∀ j v, (inV l[k]! hs[k]!)[j]? = some v → wo.cell? ⟨b, off + k * 9 + j, none⟩ = some v := hrow k hkn
        obtain ⟨x, hx⟩ : ∃ x, l[k]! = x := ⟨_, rfl⟩
        obtain ⟨⟨tA, tn, tc⟩, hh⟩ : ∃ h, hs[k]! = h := ⟨_, rfl⟩
        have HX := Lib.hid hx
        have HH := Lib.hid hh
        rw [hx, hh] at hr
        have q0 := hr 0 _ rfl
        have q1 := hr 1 _ rfl
        have q2 := hr 2 _ rfl
        have q3 := hr 3 _ rfl
        have q4 := hr 4 _ rfl
        have q5 := hr 5 _ rfl
        have q6 := hr 6 _ rfl
        have q7 := hr 7 _ rfl
        have q8 := hr 8 _ rfl
        simp only [Nat.add_zero] at q0
        clear hr hrow hx hh hks1
        go_upto_region 9 with (fail)
        obtain ⟨w8, hw8⟩ : ∃ W, wo.alloc (.cells #[.int .i64 x.kind, .int .i64 x.time, .string x.call, .string x.by_, .string x.to_, .slice tA tn tc, .int .i64 x.wake, .int .i64 x.slot, .bool x.lands] 62) = W := ⟨_, rfl⟩
        have hb8 : Below wo.heap.size wo w8 := by rw [← hw8]; exact (Below.refl _ _).alloc (Nat.le_refl _) _
        have hB8 : w8.heap[wo.heap.size]? = some (.cells #[.int .i64 x.kind, .int .i64 x.time, .string x.call, .string x.by_, .string x.to_, .slice tA tn tc, .int .i64 x.wake, .int .i64 x.slot, .bool x.lands] 62) := by rw [← hw8]; exact heap_alloc_new _ _
        have hz8 : w8.heap.size = wo.heap.size + 1 := by rw [← hw8, size_al]
        rw [hw8]
        clear hw8 q0 q1 q2 q3 q4 q5 q6 q7 q8
        have hSO : SuOk S := suE_ok HE.out
        have hzw : w.heap.size ≤ w8.heap.size := by omega
        have hNw : Below N w w8 := HB.out.1.trans (hb8.mono (by omega))
        have hC8 : CeAt F2 g S c w8.drew := HC.out.1.elim fun y hy => ⟨y, hy.below hb8.drew⟩
        have hxF : ¬ F2 wo.heap.size := fun h => by obtain ⟨y, hy⟩ := HC.out.1; have := hy.bd _ h; omega
        have hT8 : TuA tA tn x.tube w8.drew := by have := (HI.out.below hNw.drew).tube k hkn; rw [HX.out, HH.out] at this; exact this.tua (by show N ≤ w8.heap.size; omega)
        have hBx : InB x := by have := HI.out.bd k hkn; rw [HX.out] at this; exact this
        have h20 : c.acc < 20 := by have := HC.out.2.2; omega
        have htn : tn ≤ maxLen := by rw [← hT8.1]; exact hBx.tube
        have HSt := Lib.hid (Step_low (N := w.heap.size) (w := w8.drew) hC8 HFb.out (by have := HN0.out; omega) hzw HC.out.2.1 hSO h20 x tA tn tc hT8 htn hBx.call hBx.by_ hBx.to_ ks (HKS.out.below hNw.drew HN0.out) HKO.out)
        have HCl := Lib.hid (fun (w9 : World) (F3 : Nat → Prop) (h1 : CeAt F3 g S (stepP ks S c x).1 w9) (h2 : ∀ b, F3 b → w.heap.size ≤ b) (h3 : Off F2 w8 w9) (h4 : ∀ b, F3 b → F2 b ∨ w8.heap.size ≤ b) (h5 : Below w.heap.size w8 w9) => (by
          have h := HF.out k c F2 F3 g w8 w9 hlt hSO HC.out.2.1 HC.out.2.2 (HJB.out k c F2 wo w8 HJ.out hb8) HFb.out h2 hzw (h5.mono HNs.out) (by rw [HX.out]; exact h1) h3 h4
          rw [HX.out, HH.out] at h
          exact h ((HI.out.below (hNw.trans (h5.mono HNs.out))).tube k hkn |> fun t => by rw [HX.out, HH.out] at t; exact t.tua (by have := h5.size; show N ≤ w9.heap.size; omega))))
        have hokc : CeOk (stepP ks S c x).1 := step_ok HC.out.2.1 h20 ks x
        have hacc : (stepP ks S c x).1.acc ≤ k + 1 := by have := step_acc (S := S) HC.out.2.1 h20 ks x; have := HC.out.2.2; omega
        obtain ⟨⟨c3, kk⟩, hst⟩ : ∃ r, stepP ks S c x = r := ⟨_, rfl⟩
        rw [hst] at HSt HCl hokc hacc
        dsimp only at HCl hokc hacc
        unfold inpV at HSt HCl
        have HOK := Lib.hid hokc
        have HAC := Lib.hid hacc
        have HXF := Lib.hid hxF
        have HB8 := Lib.hid hB8
        have HNW := Lib.hid hNw
        clear hst hokc hacc hC8 hT8 hBx htn hSO hxF hB8 hNw
        refine wp_region_held_drew (S := (fun W => W.heap[wo.heap.size]? = some (.cells #[.int .i64 x.kind, .int .i64 x.time, .string x.call, .string x.by_, .string x.to_, .slice tA tn tc, .int .i64 x.wake, .int .i64 x.slot, .bool x.lands] 62))) (by kernel_rfl) HB8.out (fun hHeld => ?_)
        refine wpAnyH_take (i := 0) (oi := ⟨some 38, _, _, _, _, _⟩) (v := ?u0) rfl (by kernel_rfl) (by kernel_rfl) (by kernel_rfl) (fun _ _ _ h => h) (Or.inl ⟨by rfl, ?p0⟩) hHeld ?q0
        case p0 => (intro W hSw; go_simp; try with_reducible rfl)
        try simp only [Act.put, List.setIfInBounds_toArray, List.set_cons_zero, List.set_cons_succ]
        refine wpAnyH_take (i := 1) (oi := ⟨some 39, _, _, _, _, _⟩) (v := ?u1) rfl (by kernel_rfl) (by kernel_rfl) (by kernel_rfl) (fun _ _ _ h => h) (Or.inl ⟨by rfl, ?p1⟩) hHeld ?q1
        case p1 => (intro W hSw; go_simp; try with_reducible rfl)
        try simp only [Act.put, List.setIfInBounds_toArray, List.set_cons_zero, List.set_cons_succ]
        refine wpAnyH_take (i := 2) (oi := ⟨some 40, _, _, _, _, _⟩) (v := ?u2) rfl (by kernel_rfl) (by kernel_rfl) (by kernel_rfl) (fun _ _ _ h => h) (Or.inl ⟨by rfl, ?p2⟩) hHeld ?q2
        case p2 => (intro W hSw; refine run_exec_row (P := Tryz.prog) 62 (.tmp 10) ?_ wo.heap.size ?_ 62 _ (0, 0) _ hSw Tryz.underlying62 rfl (by kernel_rfl) <;> rfl)
        try simp only [Act.put, List.setIfInBounds_toArray, List.set_cons_zero, List.set_cons_succ]
        refine wpAnyH_take (i := 3) (oi := ⟨some 41, _, _, _, _, _⟩) (v := ?u3) rfl (by kernel_rfl) (by kernel_rfl) (by kernel_rfl) (fun _ _ _ h => h) (Or.inl ⟨by rfl, ?p3⟩) hHeld ?q3
        case p3 => (intro W hSw; go_simp; try with_reducible rfl)
        try simp only [Act.put, List.setIfInBounds_toArray, List.set_cons_zero, List.set_cons_succ]
        refine wpAnyH_take (i := 4) (oi := ⟨some 42, _, _, _, _, _⟩) (v := ?u4) rfl (by kernel_rfl) (by kernel_rfl) (by kernel_rfl) (fun _ _ _ h => h) (Or.inl ⟨by rfl, ?p4⟩) hHeld ?q4
        case p4 => (intro W hSw; refine run_exec_row (P := Tryz.prog) 62 (.tmp 10) ?_ wo.heap.size ?_ 62 _ (0, 0) _ hSw Tryz.underlying62 rfl (by kernel_rfl) <;> rfl)
        try simp only [Act.put, List.setIfInBounds_toArray, List.set_cons_zero, List.set_cons_succ]
        refine wpAnyH_ready (rs := [5]) (by kernel_rfl) (by simp) ?_
        refine (AllReadyH.cons (o := ⟨some 43, _, _, _, _, _⟩) rfl (fun K hK => ?_) AllReadyH.nil)
        go_simp
        go_at_call 39
        (with_reducible refine HSt.out.mono ?_)
        rintro e w9 ⟨⟨rfl, hb9, _⟩, hof9, F3, hc9, hs9⟩
        have hof9 : Off F2 w8 w9 := ⟨hof9.os, hof9.tape, hof9.output, hof9.size, hof9.block⟩
        have hb9 : Below w.heap.size w8 w9 := ⟨hb9.os, hb9.tape, hb9.output, hb9.size, hb9.block⟩
        have hx9 := (hof9.block wo.heap.size (by show _ < w8.heap.size; omega) HXF.out).trans HB8.out
        have HB9 := Lib.hid hb9
        have HC9 := Lib.hid hc9
        have HX9 := Lib.hid hx9
        have hF9 : ∀ b, F3 b → w.heap.size ≤ b := fun b hb => (hs9 b hb).elim (HFb.out b) (fun h => by have h : w8.heap.size ≤ b := h; omega)
        have HF9 := Lib.hid hF9
        have HCq := Lib.hid (HCl.out w9 F3 hc9 hF9 hof9 hs9 hb9)
        clear HCl hof9 hc9 hs9 hF9 hb9
        refine hK.out _ _ hx9 (fun hHeld => ?_)
        clear hK K hx9
        refine wpAnyH_ready (rs := [6]) (by kernel_rfl) (by simp) ?_
        refine (AllReadyH.cons (o := ⟨some 44, _, _, _, _, _⟩) rfl (fun K hK => ?_) AllReadyH.nil)
        go_simp
        obtain ⟨fnF, fnC, e1, e2, e3⟩ := HFun.out
        rw [call_enter e1 e2 e3]
        clear e1 e2 e3
        show Calls Tryz.prog fn _ w9 _
        refine HCq.out.mono ?_
        rintro e w10 ⟨rfl, hmid, hJ10⟩
        have HMid := Lib.hid hmid
        have HJ10 := Lib.hid hJ10
        have hx10 := (hmid.m wo.heap.size (by omega) (Array.getElem?_eq_some_iff.1 HX9.out).1).trans HX9.out
        clear hmid hJ10
        go_simp
        refine hK.out _ _ hx10 (fun hHeld => ?_)
        clear hK K
        try simp only [Act.put, List.setIfInBounds_toArray, List.set_cons_zero, List.set_cons_succ]
        refine wpAnyH_ready (rs := [7]) (by kernel_rfl) (by simp) ?_
        refine (AllReadyH.cons (o := ⟨some 45, _, _, _, _, _⟩) rfl (fun K hK => ?_) AllReadyH.nil)
        go_simp
        refine hK.out _ _ hx10 (fun hHeld => ?_)
        clear hK K hx10
        try simp only [Act.put, List.setIfInBounds_toArray, List.set_cons_zero, List.set_cons_succ]
        refine wpAnyH_done (by kernel_rfl) ?_ _
        go_wp2_with fail
        go_roundw
        case rel =>
          have hM := HMid.out
          have h9 := HB9.out.size
          have h10 := hM.b.size
          refine ⟨_, _, _, ⟨k + 1, by omega, rfl, c3, F3, Lib.hid ⟨HC9.out.elim fun y hy => ⟨y, hy.kept (.mid h10 hM.m HF9.out)⟩, HOK.out, HAC.out⟩, HJ10, HF9, Lib.hid ⟨(HNW.out.trans (HB9.out.mono HNs.out)).trans hM.b, by omega⟩⟩, rfl, rfl, by go_num⟩
        case measure => simp [intOf]; omega
      · obtain rfl : m = k := by omega
        have HR : Hid (R (.returned (.bool true)) wo) := Lib.hid (by rw [← HRe.out]; exact ⟨rfl, HB.out.1, fun _ => ⟨c, F2, HC.out.2.1, HJ.out⟩⟩)
        go_wp2
        (try go_ret)
        exact HR.out
  · have eb : (k0 != 0) = true := by simpa using h0
    have ek : (k0 == k0) = true := by simp
    have HN' := Lib.hid (fun (W : World) => (HN.out W).mono (by
      rintro e w' (⟨_, h1, h2⟩ | ⟨h1, _⟩)
      · exact ⟨h1, h2⟩
      · exact absurd h1 h0 : ∀ e w', _ → e = .returned (.tuple #[.pointer none, .int .i64 k0]) ∧ Below W.heap.size W w'))
    clear HN
    go_enter Tryz.func21, Tryz.ntmps21
    go_wp2_with (first
      | (first | (refine wpList_load_row rfl 27 _ rfl w.heap.size rfl 27 _ (0, 0) _ (by first | exact HGB.out | exact HGB1.out) Tryz.underlying27 rfl (by kernel_rfl) ?_) | (refine wpList_load_row_w 27 _ rfl w.heap.size rfl rfl 27 _ (0, 0) _ (by first | exact HGB.out | exact HGB1.out) Tryz.underlying27 rfl (by kernel_rfl) ?_))
      | (go_at_call 37; go_loud (refine (HN'.out _).mono ?_; rintro e w1 ⟨rfl, hb1⟩; have HGB1 := Lib.hid ((hb1.block w.heap.size (by omega)).trans HGB.out); have HB1 := Lib.hid hb1; clear hb1))
      | (go_at_call 13; go_loud (refine (HCk.out _).mono ?_; rintro e w2 ⟨rfl, hb2⟩; have HB2 := Lib.hid hb2; clear hb2)))
    have hz1 := HB1.out.size
    have HR : Hid (R (.returned (.bool true)) w2) := Lib.hid (by
      rw [← HRe.out]
      exact ⟨rfl, ((HBV.out.mono HNs.out).trans (HB1.out.mono (by omega))).trans (HB2.out.mono (by omega)), fun h => absurd (HE.out.symm.trans h) h0⟩)
    (try go_ret)
    exact HR.out
end Go.Proofs.YtaebebpldkciiaaGreatDoor
