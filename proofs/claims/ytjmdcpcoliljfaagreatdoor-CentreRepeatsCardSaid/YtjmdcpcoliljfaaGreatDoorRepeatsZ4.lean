/- CentreRepeats returns true for every input. -/
import Derived.Test.YtjmdcpcoliljfaaGreatDoorRepeatsZ3
import Derived.Test.YtjmdcpcoliljfaaGreatDoorG20
/- CentreRepeats: what holds behind the inputs of the first run, and of the second. -/
namespace Go.Proofs.YtjmdcpcoliljfaaGreatDoor
open Go.RowKit

theorem suE_of {S : Su} (h : SuOk S) : suE S = 0 := by
  have h1 := h.lat
  have h2 := h.vert
  unfold suE setE
  have hs : sepE S.lat S.vert = 0 := by
    unfold sepE
    by_cases h5 : 0 ≤ S.lat ∧ S.lat ≤ 1000000 ∧ 0 ≤ S.vert ∧ S.vert ≤ 60000
    · simp_all
    · exact absurd ⟨h1.1, h1.2, h2.1, h2.2⟩ h5
  have hg : gapsOkB S.g = true := gapsOkB_iff.2 fun i hi => by unfold gapOk; exact h.g i hi
  rw [if_neg (by simpa using hs)]
  simp [hg]
theorem InsA.more {N N' n : Nat} {A : Option Addr} {l : List Inp} {hs : List Hd} {w : World} (k : InsA N A n l hs w) (hN : N ≤ N') : InsA N' A n l hs w :=
  ⟨k.ln, k.hn, k.row.more hN, fun i hi => ⟨(k.tube i hi).1, (k.tube i hi).2.more hN⟩, k.bd⟩
/-- A centre that is given inputs. -/
def runC (S : Su) (l : List Inp) : Ce := l.foldl (fun c x => (stepP kindsS S c x).1) newC
/-- Every input is accepted, and c is the centre behind them. -/
def RunsP (S : Su) (l : List Inp) (c : Ce) : Prop := runC S l = c ∧ ∀ k, k < l.length → (stepP kindsS S (runC S (l.take k)) l[k]!).2 = 0
theorem RunsP.snoc {S : Su} {l : List Inp} {c : Ce} (h : RunsP S l c) (x : Inp) (h0 : (stepP kindsS S c x).2 = 0) : RunsP S (l ++ [x]) (stepP kindsS S c x).1 := by
  refine ⟨by unfold runC; rw [List.foldl_append]; show (stepP kindsS S (runC S l) x).1 = _; rw [h.1], fun k hk => ?_⟩
  rw [List.length_append, List.length_singleton] at hk
  by_cases hl : k < l.length
  · rw [List.take_append_of_le_length (by omega), getElem!_pos (l ++ [x]) k (by simp; omega), List.getElem_append_left hl]
    have := h.2 k hl
    rw [getElem!_pos l k hl] at this
    exact this
  · have e : k = l.length := by omega
    subst e
    rw [List.take_left' rfl, h.1, getElem!_pos (l ++ [x]) l.length (by simp)]
    simpa using h0
theorem runC_take {S : Su} {l : List Inp} {k : Nat} (hk : k < l.length) : runC S (l.take (k + 1)) = (stepP kindsS S (runC S (l.take k)) l[k]!).1 := by
  unfold runC
  rw [List.take_succ_eq_append_getElem hk, List.foldl_append, getElem!_pos l k hk]
  rfl

/-- Behind k inputs of the first run. -/
def RepJ (S : Su) (N b1 b2 b3 : Nat) (A : Option Addr) (n : Nat) (l : List Inp) (hs : List Hd) (k : Nat) (c : Ce) (F : Nat → Prop) (w : World) : Prop :=
  ∃ (aA : Option Addr) (ac : Nat) (ps : List (Inp × Hd)) (v oh : Hd), AccM F N b1 aA ac ps w ∧ RefM F b2 b3 v oh c.fl c.ow w ∧ ps.length ≤ k ∧ RunsP S (ps.map Prod.fst) c ∧ InsA N A n l hs w ∧ N ≤ w.heap.size
theorem run26 (S : Su) (l : List Inp) (hs : List Hd) (A : Option Addr) (n N N1 m b1 b2 b3 : Nat) (hm : m ≤ 14) (hmn : m ≤ n) (h1 : N ≤ b1 ∧ b1 < N1) (h2 : N ≤ b2 ∧ b2 < N1) (h3 : N ≤ b3 ∧ b3 < N1)
    (n12 : b1 ≠ b2) (n13 : b1 ≠ b3) (n23 : b2 ≠ b3) :
    RunF2 kindsS S l hs N N1 m 26 #[.pointer (some ⟨b1, 0, none⟩), .pointer (some ⟨b2, 0, none⟩), .pointer (some ⟨b3, 0, none⟩)] (RepJ S N b1 b2 b3 A n l hs) := by
  intro k c F F' g wa wb hk hS hok hacc hJ hF hF' hN1 hb hc hof hsub hgr _
  obtain ⟨aA, ac, ps, v, oh, ha, hr, hpk, hrun, hI, hNs⟩ := hJ
  have hokc : CeOk (stepP kindsS S c (l[k]!)).1 := step_ok hok (by omega) kindsS _
  have hwb : N ≤ wb.heap.size := by have := hof.size; omega
  have hcode := step_code (S := S) (c := c) (x := l[k]!) (ks := kindsS)
  have hsub' : ∀ b, F' b → F b ∨ wa.heap.size ≤ b := fun b hb => (hsub b hb).imp id Nat.le_of_lt
  have hIb := hI.below hb
  have ha' := ha.off hof hsub' hb
  have q : ∀ b, b < N1 → ¬ F' b := fun b hb h => by have := hF' b h; omega
  by_cases h0 : (stepP kindsS S c (l[k]!)).2 = 0
  · rw [h0]
    refine (cl26_yes hc hokc ha' (hr.e1.off hof hr.n1) (hr.e2.off hof hr.n2) (q _ h2.2) (q _ h3.2) n12 n13 n23 hwb ⟨h1.1, h2.1, h3.1⟩ (by omega) (l[k]!) (hs[k]!) (hIb.tube k (by omega)) (hIb.bd k (by omega))).mono ?_
    rintro e w' ⟨r1, ⟨aA', ac', r2⟩, ⟨v', oh', r3⟩, r4⟩
    have hthr : ∀ b, Thr b1 b2 b3 (.slice aA ps.length ac) b → N ≤ b ∧ ¬ F' b ∧ b < wb.heap.size ∧ b ≠ wa.heap.size := fun b hb => by
      rcases hb with e | e | e | e
      · subst e; exact ⟨h1.1, q _ h1.2, by omega, by omega⟩
      · subst e; exact ⟨h2.1, q _ h2.2, by omega, by omega⟩
      · subst e; exact ⟨h3.1, q _ h3.2, by omega, by omega⟩
      · have := (ha.own.1.lt b e).2
        exact ⟨(ha'.own.2 b e).2, (ha'.own.2 b e).1, by omega, by omega⟩
    have hbel : Below N wb w' := ⟨r4.os, r4.tape, r4.output, r4.size, fun b hb => r4.block b (by omega) (fun h => by have := (hthr b h).1; omega)⟩
    refine ⟨r1, ⟨hbel, Kept.of_off r4 (fun b hb h => (hthr b h).2.1 hb), r4.block _ hgr (fun h => (hthr _ h).2.2.2 rfl)⟩, aA', ac', ps ++ [(l[k]!, hs[k]!)], v', oh', r2, r3, by rw [List.length_append, List.length_singleton]; omega, ?_, hIb.below hbel, by have := r4.size; omega⟩
    rw [List.map_append]
    exact hrun.snoc _ h0
  · have hcc := hcode.1 h0
    have hr' := hr.off hof hsub'
    rw [hcc] at hc hokc ⊢
    refine (cl26_no g b1 b2 b3 (l[k]!) (hs[k]!).A (hs[k]!).n (hs[k]!).c _ h0 wb).mono ?_
    rintro e w' ⟨r1, r2⟩
    exact ⟨r1, ⟨r2.mono hwb, .of_below r2, r2.block _ hgr⟩, aA, ac, ps, v, oh, ha'.below hwb r2, hr'.below r2, by omega, hrun, hIb.below (r2.mono hwb), by have := r2.size; omega⟩

/-- Behind k inputs of the second run: C is the centre that the first run left. -/
def RepK (S : Su) (b8 b1 b2 b3 : Nat) (aA : Option Addr) (ac m : Nat) (v oh : Hd) (C : Ce) (l : List Inp) (k : Nat) (c : Ce) (_ : Nat → Prop) (w : World) : Prop :=
  V1 b8 3 (.int .i64 (k : Int)) w ∧ V1 b1 28 (.slice aA m ac) w ∧ RefM (fun b => b8 ≤ b) b2 b3 v oh C.fl C.ow w ∧ c = runC S (l.take k)
theorem RefM.keep8 {b8 b2 b3 : Nat} {v oh : Hd} {fl : List Fl} {ow : List Ow} {w w' : World} (h : RefM (fun b => b8 ≤ b) b2 b3 v oh fl ow w) (hb : Below b8 w w') : RefM (fun b => b8 ≤ b) b2 b3 v oh fl ow w' := by
  have hk : Kept (fun k => ¬ b8 ≤ k) w w' := ⟨hb.size, fun k _ hf => hb.block k (by omega)⟩
  have n1 := h.n1
  have n2 := h.n2
  exact ⟨(hb.block _ (by omega)).trans h.e1, (hb.block _ (by omega)).trans h.e2, h.n1, h.n2, h.ne, h.cp.kept hk, h.on, h.ow.kept hk⟩
theorem RefM.less {F G : Nat → Prop} {b2 b3 : Nat} {v oh : Hd} {fl : List Fl} {ow : List Ow} {w : World} (h : RefM F b2 b3 v oh fl ow w) (hs : ∀ b, G b → F b) : RefM G b2 b3 v oh fl ow w :=
  ⟨h.e1, h.e2, fun k => h.n1 (hs _ k), fun k => h.n2 (hs _ k), h.ne, h.cp.mono fun _ hk hg => hk (hs _ hg), h.on, h.ow.mono fun _ hk hg => hk (hs _ hg)⟩
theorem run27 (S : Su) (l : List Inp) (hs : List Hd) (b8 b1 b2 b3 ac m : Nat) (aA : Option Addr) (v oh : Hd) (C : Ce) (hm : m ≤ 14) (hl : l.length = m) (hb1 : b1 < b8) (hrun : RunsP S l C) :
    RunF2 kindsS S l hs b8 (b8 + 1) m 27 #[.pointer (some ⟨b8, 0, none⟩), .pointer (some ⟨b1, 0, none⟩), .pointer (some ⟨b2, 0, none⟩), .pointer (some ⟨b3, 0, none⟩)] (RepK S b8 b1 b2 b3 aA ac m v oh C l) := by
  intro k c F F' g wa wb hk hS hok hacc hJ hF hF' hN1 hb hc hof hsub hgr _
  obtain ⟨e8, e1, hr, rfl⟩ := hJ
  have hokc : CeOk (stepP kindsS S (runC S (l.take k)) (l[k]!)).1 := step_ok hok (by omega) kindsS _
  have h0 := hrun.2 k (by omega)
  have f8 : V1 b8 3 (.int .i64 (k : Int)) wb := e8.off hof (fun h => by have := hF _ h; omega)
  have f1 : V1 b1 28 (.slice aA m ac) wb := (hb.block _ hb1).trans e1
  have hrb := hr.keep8 hb
  have hn8 : ¬ F' b8 := fun h => by have := hF' _ h; omega
  have hn2 := hr.n1
  have hn3 := hr.n2
  have hstep := runC_take (S := S) (l := l) (k := k) (by omega)
  have fin : ∀ (e : Ending) (w' : World), (e = .returned (.bool true) ∧ V1 b8 3 (.int .i64 ((k : Int) + 1)) w' ∧ Off (fun b => b = b8) wb w') → e = .returned (.bool true) ∧ (Below b8 wb w' ∧ Kept F' wb w' ∧ w'.heap[wa.heap.size]? = wb.heap[wa.heap.size]?) ∧ RepK S b8 b1 b2 b3 aA ac m v oh C l (k + 1) (stepP kindsS S (runC S (l.take k)) (l[k]!)).1 F' w' := by
    rintro e w' ⟨r1, r2, r3⟩
    have hbel : Below b8 wb w' := ⟨r3.os, r3.tape, r3.output, r3.size, fun b hb => r3.block b (by have := f8.lt; omega) (fun h => by omega)⟩
    refine ⟨r1, ⟨hbel, Kept.of_off r3 (fun b hb h => hn8 (h ▸ hb)), r3.block _ hgr (fun h => by omega)⟩, ?_, (hbel.block _ hb1).trans f1, hrb.keep8 hbel, hstep.symm⟩
    rw [show ((k + 1 : Nat) : Int) = (k : Int) + 1 by omega]
    exact r2
  rw [h0]
  by_cases hlast : k + 1 < m
  · exact (cl27_less f8 f1 (by omega) hlast (by omega) (l[k]!) _ _ _).mono fin
  · have he : (stepP kindsS S (runC S (l.take k)) (l[k]!)).1 = C := by
      rw [← hstep, List.take_of_length_le (by omega), hrun.1]
    rw [he] at hc hokc
    exact (cl27_last hc hokc f8 f1 (hrb.less (fun b hb => by have := hF' b hb; omega)) hn8 (by omega) (by omega) (by omega) (by omega) (by omega) (l[k]!) _ _ _).mono fin
end Go.Proofs.YtjmdcpcoliljfaaGreatDoor

/- CentreRepeats: the walk. -/
namespace Go.Proofs.YtjmdcpcoliljfaaGreatDoor
open Go.RowKit

theorem map_at1 (ps : List (Inp × Hd)) (i : Nat) (hi : i < ps.length) : (ps.map Prod.fst)[i]! = (ps[i]!).1 := by
  rw [getElem!_pos (ps.map Prod.fst) i (by simpa using hi), getElem!_pos ps i hi, List.getElem_map]
theorem map_at2 (ps : List (Inp × Hd)) (i : Nat) (hi : i < ps.length) : (ps.map Prod.snd)[i]! = (ps[i]!).2 := by
  rw [getElem!_pos (ps.map Prod.snd) i (by simpa using hi), getElem!_pos ps i hi, List.getElem_map]
theorem AccM.ins {F : Nat → Prop} {N b1 : Nat} {aA : Option Addr} {ac : Nat} {ps : List (Inp × Hd)} {w : World} (h : AccM F N b1 aA ac ps w) (hN : N ≤ w.heap.size) : InsA w.heap.size aA ps.length (ps.map Prod.fst) (ps.map Prod.snd) w := by
  refine ⟨by simp, by simp, ?_, fun i hi => ?_, fun i hi => ?_⟩
  · refine (Sl_rows inP_len h.own.1 rfl (by decide)).congr fun i hi => ?_
    rw [map_at1 ps i hi, map_at2 ps i hi]
    rfl
  · rw [map_at1 ps i hi, map_at2 ps i hi]
    have hm : ps[i]! ∈ ps := by rw [getElem!_pos ps i hi]; exact List.getElem_mem hi
    exact ⟨(h.tb _ hm).1.1, (h.tb _ hm).1.2.more hN⟩
  · rw [map_at1 ps i hi]
    have hm : ps[i]! ∈ ps := by rw [getElem!_pos ps i hi]; exact List.getElem_mem hi
    exact (h.tb _ hm).2
/-- What the first run leaves. -/
def TwoP (S : Su) (b1 b2 b3 : Nat) (m2 : Nat) (aA : Option Addr) (ac : Nat) (W : World) : Prop :=
  V1 b1 28 (.slice aA m2 ac) W ∧ m2 ≤ 14 ∧ (m2 ≠ 0 → ∀ W8 : World, Below W.heap.size W W8 → V1 W.heap.size 3 (.int .i64 0) W8 → W8.heap.size = W.heap.size + 1 →
    Calls Tryz.prog 12 #[suA S, .slice aA m2 ac, .func (.func 27) #[] #[.pointer (some ⟨W.heap.size, 0, none⟩), .pointer (some ⟨b1, 0, none⟩), .pointer (some ⟨b2, 0, none⟩), .pointer (some ⟨b3, 0, none⟩)]] W8 fun e w' => e = .returned (.bool true) ∧ Below W.heap.size W8 w')
set_option maxRecDepth 100000 in
theorem second_run {S : Su} {ps : List (Inp × Hd)} {b1 b2 b3 ac N : Nat} {aA : Option Addr} {c : Ce} {F : Nat → Prop} {v oh : Hd} {W : World} (hacc : AccM F N b1 aA ac ps W) (hr : RefM F b2 b3 v oh c.fl c.ow W) (hrun : RunsP S (ps.map Prod.fst) c) (hp : ps.length ≤ 14) (hN : N ≤ W.heap.size) (hks : KsAt kindsS W) (h0 : 0 < W.heap.size) :
    TwoP S b1 b2 b3 ps.length aA ac W := by
  refine ⟨hacc.e, hp, fun _ W8 hb h8 hz => ?_⟩
  have hr8 : RefM (fun b => W.heap.size ≤ b) b2 b3 v oh c.fl c.ow W := ⟨hr.e1, hr.e2, fun h => by have := hr.e1.lt; omega, fun h => by have := hr.e2.lt; omega, hr.ne, hr.cp.lt.mono (fun k hk h => by omega), hr.on, hr.ow.1, fun k hk h => by have := (hr.ow.1.lt k hk).2; omega⟩
  have hr8' := hr8.keep8 hb
  have hI := (hacc.ins hN).below hb
  have hlt1 := hacc.e.lt
  have e1 := hacc.e.below hb
  have hrunF := run27 S (ps.map Prod.fst) (ps.map Prod.snd) W.heap.size b1 b2 b3 ac ps.length aA v oh c hp (by simp) hlt1 hrun
  rw [← hz] at hrunF
  have hcap : ps.length ≤ ac ∧ ac ≤ maxLen := by
    rcases hacc.own.1.2 with ⟨e, hn⟩ | ⟨g, cap, cur, e, _, _, h1, h2, _⟩
    · injection e with _ _ e3
      subst e3
      exact ⟨by omega, Nat.zero_le _⟩
    · injection e with _ _ e3
      subst e3
      exact ⟨h1, h2⟩
  have hnil : aA = none → ps.length = 0 ∧ ac = 0 := fun ha => by
    rcases hacc.own.1.2 with ⟨e, hn⟩ | ⟨g, cap, cur, e, _⟩
    · injection e with _ _ e3
      exact ⟨hn, e3⟩
    · injection e with e1
      rw [ha] at e1
      cases e1
  refine (run_any2 S (ps.map Prod.fst) (ps.map Prod.snd) W.heap.size ps.length ps.length aA ac 27 _ (RepK S W.heap.size b1 b2 b3 aA ac ps.length v oh c (ps.map Prod.fst)) W8 kindsS (hks.below hb h0) kindsS_ok h0 (by omega) (by omega) hI hcap hnil (fun k c' F' W1 W2 hJ hb2 => ?_) (fun F' W1 hb2 hF => ?_) ⟨_, _, rfl, by kernel_rfl, rfl⟩ hrunF).mono fun e w' hh => ⟨hh.1, hh.2.1⟩
  · obtain ⟨a1, a2, a3, a4⟩ := hJ
    exact ⟨a1.below hb2, a2.below hb2, a3.keep8 (hb2.mono (by have := a1.lt; omega)), a4⟩
  · exact ⟨h8.below hb2, e1.below hb2, hr8'.keep8 (hb2.mono (by omega)), by simp [runC]⟩
set_option maxRecDepth 100000 in
set_option maxHeartbeats 8000000 in
theorem repeats_any (S : Su) (l : List Inp) (hs : List Hd) (A : Option Addr) (n cA : Nat) (w : World) (h : ArgOk S l hs A n cA w) :
    Calls Tryz.prog 7 #[suA S, .slice A n cA] w fun e w' => e = .returned (.bool true) ∧ Below w.heap.size w w' := by
  obtain ⟨V, hV, hbV, hzV, hgB⟩ := ArgOk.setup (S := S) (w := w)
  obtain ⟨V4, hV4⟩ : ∃ W, (((V.alloc (.cells #[.slice none 0 0] 28)).alloc (.cells #[.slice none 0 0] 37)).alloc (.cells #[.slice none 0 0] 55)) = W := ⟨_, rfl⟩
  have hz4 : V4.heap.size = V.heap.size + 3 := by rw [← hV4]; simp only [size_al]
  have hbV4 : Below V.heap.size V V4 := by
    rw [← hV4]
    exact (((Below.refl _ _).alloc (Nat.le_refl _) _).alloc (by simp) _).alloc (by simp only [size_al]; omega) _
  have e1 : V1 V.heap.size 28 (.slice none 0 0) V4 := by
    rw [← hV4]
    have a1 := heap_alloc_new V (.cells #[.slice none 0 0] 28)
    have a2 := ((Below.refl (V.alloc (.cells #[.slice none 0 0] 28)).heap.size (V.alloc (.cells #[.slice none 0 0] 28))).alloc (Nat.le_refl _) (.cells #[.slice none 0 0] 37)).alloc (by simp only [size_al]; omega) (.cells #[.slice none 0 0] 55)
    exact (a2.block _ (by simp only [size_al]; omega)).trans a1
  have e2 : V1 (V.heap.size + 1) 37 (.slice none 0 0) V4 := by
    rw [← hV4]
    have a1 := heap_alloc_new (V.alloc (.cells #[.slice none 0 0] 28)) (.cells #[.slice none 0 0] 37)
    rw [size_al] at a1
    have a2 := (Below.refl ((V.alloc (.cells #[.slice none 0 0] 28)).alloc (.cells #[.slice none 0 0] 37)).heap.size ((V.alloc (.cells #[.slice none 0 0] 28)).alloc (.cells #[.slice none 0 0] 37))).alloc (Nat.le_refl _) (.cells #[.slice none 0 0] 55)
    exact (a2.block _ (by simp only [size_al]; omega)).trans a1
  have e3 : V1 (V.heap.size + 1 + 1) 55 (.slice none 0 0) V4 := by
    rw [← hV4]
    have a1 := heap_alloc_new ((V.alloc (.cells #[.slice none 0 0] 28)).alloc (.cells #[.slice none 0 0] 37)) (.cells #[.slice none 0 0] 55)
    rw [size_al, size_al] at a1
    exact a1
  have hbw4 : Below w.heap.size w V4 := hbV.trans (hbV4.mono hbV.size)
  have hwV : w.heap.size ≤ V.heap.size := by omega
  have HG4 := Lib.hid ((hbV4.block w.heap.size (by omega)).trans hgB)
  have HB4 := Lib.hid hbw4
  have HZ4 := Lib.hid (show w.heap.size < V4.heap.size by omega)
  have HFa := Lib.hid (fact_any V4 (h.ks.below hbw4 h.pos) (by omega))
  have hIV : InsA V.heap.size A n l hs V4 := (h.ins.below hbw4).more hwV
  have HR := Lib.hid (fun (W : World) (hb : Below V4.heap.size V4 W) => (show Calls Tryz.prog 12 #[suA S, .slice A n cA, .func (.func 26) #[] #[.pointer (some ⟨V.heap.size, 0, none⟩), .pointer (some ⟨V.heap.size + 1, 0, none⟩), .pointer (some ⟨V.heap.size + 1 + 1, 0, none⟩)]] W fun e w' => e = .returned (.bool true) ∧ Below V.heap.size W w' ∧ ∃ m2 aA ac, TwoP S V.heap.size (V.heap.size + 1) (V.heap.size + 1 + 1) m2 aA ac w' from by
    have hb4 : w.heap.size ≤ V4.heap.size := by omega
    have hsz := hb.size
    have hksW : KsAt kindsS W := h.ks.below (hbw4.trans (hb.mono hb4)) h.pos
    have hIW : InsA V.heap.size A n l hs W := hIV.below (hb.mono (by omega))
    have hJ0 : ∀ F W1, Below W.heap.size W W1 → (∀ b, F b → W.heap.size ≤ b) → RepJ S V.heap.size V.heap.size (V.heap.size + 1) (V.heap.size + 1 + 1) A n l hs 0 newC F W1 := fun F W1 hb2 hF => by
      have hbb := hb.trans (hb2.mono hb.size)
      have hn : ∀ q, q < V.heap.size + 3 → ¬ F q := fun q hq hf => by have := hF q hf; omega
      have h1 : V1 V.heap.size 28 (.slice none 0 0) W1 := e1.below hbb
      exact ⟨none, 0, [], ⟨none, 0, 0⟩, ⟨none, 0, 0⟩, ⟨h1, hn _ (by omega), ⟨World.ownsRow_nil _ _ _ _, fun k hk => by cases hk⟩, fun p hp => by cases hp⟩, ⟨e2.below hbb, e3.below hbb, hn _ (by omega), hn _ (by omega), by omega, ⟨[], [], ⟨rfl, rfl, ⟨World.ownsRow_nil _ _ _ _, fun k hk => by cases hk⟩, fun i hi => absurd hi (by simp [newC])⟩⟩, rfl, ⟨World.ownsRow_nil _ _ _ _, fun k hk => by cases hk⟩⟩, Nat.le_refl _, ⟨rfl, fun k hk => absurd hk (by simp)⟩, hIW.below (hb2.mono (by omega)), by have := hb2.size; omega⟩
    by_cases h0 : suE S = 0
    · refine (run_any2 S l hs V.heap.size n (min n 14) A cA 26 #[.pointer (some ⟨V.heap.size, 0, none⟩), .pointer (some ⟨V.heap.size + 1, 0, none⟩), .pointer (some ⟨V.heap.size + 1 + 1, 0, none⟩)] (RepJ S V.heap.size V.heap.size (V.heap.size + 1) (V.heap.size + 1 + 1) A n l hs) W kindsS hksW kindsS_ok (by omega) (by omega) rfl hIW h.cap h.nil (fun k c F W1 W2 hJ hb2 => ?_) hJ0 ⟨_, _, rfl, by kernel_rfl, rfl⟩ (run26 S l hs A n V.heap.size W.heap.size (min n 14) _ _ _ (by omega) (by omega) (by omega) (by omega) (by omega) (by omega) (by omega) (by omega))).mono ?_
      · obtain ⟨aA, ac, ps, v, oh, a1, a2, a3, a4, a5, a6⟩ := hJ
        exact ⟨aA, ac, ps, v, oh, a1.below a6 hb2, a2.below hb2, a3, a4, a5.below (hb2.mono a6), by have := hb2.size; omega⟩
      · rintro e W2 ⟨r1, r2, r3⟩
        obtain ⟨c, F, _, aA, ac, ps, v, oh, a1, a2, a3, a4, a5, a6⟩ := r3 h0
        exact ⟨r1, r2, ps.length, aA, ac, second_run a1 a2 a4 (by omega) a6 (hksW.below r2 (by omega)) (by omega)⟩
    · refine (run_any2 S l hs W.heap.size n (min n 14) A cA 26 #[.pointer (some ⟨V.heap.size, 0, none⟩), .pointer (some ⟨V.heap.size + 1, 0, none⟩), .pointer (some ⟨V.heap.size + 1 + 1, 0, none⟩)] (fun _ _ _ _ => True) W kindsS hksW kindsS_ok (by omega) (Nat.le_refl _) rfl (hIW.more (by omega)) h.cap h.nil (fun _ _ _ _ _ _ _ => trivial) (fun _ _ _ _ => trivial) ⟨_, _, rfl, by kernel_rfl, rfl⟩ (fun _ _ _ _ _ _ _ _ hS => absurd (suE_of hS) h0)).mono ?_
      rintro e W2 ⟨r1, r2, _⟩
      exact ⟨r1, r2.mono (by omega), 0, none, 0, (e1.below hb).below r2, by omega, fun h => absurd rfl h⟩))
  unfold suA setupA at HR ⊢
  unfold TwoP suA setupA at HR
  have HV := Lib.hid hzV
  have HWV := Lib.hid hwV
  have HbV := Lib.hid hbV
  clear hbV hgB h e1 e2 e3 hbV4 hbw4 hz4 hIV hwV
  rw [hzV] at HR HV
  go_enter Tryz.func7, Tryz.ntmps7
  have HV4 := Lib.hid hV4
  clear hV4
  go_upto_region 4 with (fail)
  rw [HV4.out]
  go_upto_region 6 with (first
    | (first | (refine wpList_load_row rfl 27 _ rfl w.heap.size rfl 27 _ (0, 0) _ HG1.out Tryz.underlying27 rfl (by kernel_rfl) ?_) | (refine wpList_load_row_w 27 _ rfl w.heap.size rfl rfl 27 _ (0, 0) _ HG1.out Tryz.underlying27 rfl (by kernel_rfl) ?_))
    | (go_at_call 11; go_loud (refine HFa.out.mono ?_; rintro e w1 ⟨rfl, hb1⟩; have HG1 := Lib.hid ((hb1.block w.heap.size (by have := HZ4.out; omega)).trans HG4.out); have HB1 := Lib.hid hb1; clear hb1))
    | (go_at_call 12; go_loud (refine (HR.out w1 HB1.out).mono ?_; rintro e w2 ⟨rfl, hb2, m2, aA, ac, h1, h14, h2⟩; have HB2 := Lib.hid hb2; have HT := Lib.hid h2; have k1 := h1.cell; have HV1 := Lib.hid h1; clear hb2 h1 h2)))
  have HBw2 : Hid (Below w.heap.size w w2) := Lib.hid ((HB4.out.trans (HB1.out.mono HB4.out.size)).trans (HB2.out.mono (by omega)))
  by_cases h0 : m2 = 0
  · have e0 : ((m2 : Int) == 0) = true := by rw [h0]; rfl
    go_wp2_with fail
    go_ret
    exact ⟨rfl, HBw2.out⟩
  · have e0 : ((m2 : Int) == 0) = false := by simpa using h0
    go_upto_region 9 with (fail)
    obtain ⟨w8, hw8⟩ : ∃ W, w2.alloc (.cells #[.int .i64 0] 3) = W := ⟨_, rfl⟩
    have hb8 : Below w2.heap.size w2 w8 := by rw [← hw8]; exact (Below.refl _ _).alloc (Nat.le_refl _) _
    have HB8 := Lib.hid hb8
    have hz8 : w8.heap.size = w2.heap.size + 1 := by rw [← hw8, size_al]
    have hv8 : V1 w2.heap.size 3 (.int .i64 0) w8 := by rw [← hw8]; exact heap_alloc_new _ _
    have HRun := Lib.hid (HT.out h0 w8 hb8 hv8 hz8)
    have k1 : w8.cell? ⟨w.heap.size + 1, 0, none⟩ = some (.slice aA m2 ac) := (HV1.out.below hb8).cell
    have HG8 := Lib.hid ((hb8.block w.heap.size (by have := HB2.out.size; have := HB1.out.size; have := HZ4.out; omega)).trans ((HB2.out.block w.heap.size (by omega)).trans HG1.out))
    rw [hw8]
    clear hw8 hz8 hv8 hb8
    go_wp2_with (first
      | (first | (refine wpList_load_row rfl 27 _ rfl w.heap.size rfl 27 _ (0, 0) _ HG8.out Tryz.underlying27 rfl (by kernel_rfl) ?_) | (refine wpList_load_row_w 27 _ rfl w.heap.size rfl rfl 27 _ (0, 0) _ HG8.out Tryz.underlying27 rfl (by kernel_rfl) ?_))
      | (go_at_call 12; go_loud (refine HRun.out.mono ?_; rintro e w9 ⟨rfl, hb9⟩; have HB9 := Lib.hid hb9; clear hb9)))
    go_ret
    exact ⟨rfl, HBw2.out.trans ((HB8.out.mono (by have := HB2.out.size; have := HB1.out.size; have := HB4.out.size; omega)).trans (HB9.out.mono (by have := HB2.out.size; have := HB1.out.size; have := HB4.out.size; omega)))⟩
end Go.Proofs.YtjmdcpcoliljfaaGreatDoor

/- CentreRepeats returns true for every input. -/
namespace Go.Proofs.YtjmdcpcoliljfaaGreatDoor
open Go.ChangeShapes Go.WideShapes Go.ChangeAt Go.RowKit Go.ChangeMaps

set_option maxRecDepth 100000 in
theorem CentreRepeats_lifted (os : Os) (started : os.Started) (H : Type) (enc : TypeId × Value → H) :
    ReturnsInHanded {} Tryz.checked os 7 .any (fun w args => (Rows.centreRepeatsSpec.pre enc Tryz.prog Tryz.f7 [] false w args ∧ laidMetH Tryz.prog laid7 w) ∧ sizedMet enc Tryz.prog Tryz.f7 (OpenSpec.ofChange Rows.centreRepeatsSpec) false w args) (Rows.centreRepeatsSpec.post enc Tryz.prog Tryz.f7 false true false false) := by
  refine Law.lifted laid7 started (by kernel_rfl) Tryz.func7 (by kernel_rfl) (tb := 4) rfl Tryz.underlying4 rfl (fun H ds hl => ?_)
    (ChangeSpec.witness_shaped (enc := enc) (C := Tryz.checked) (os := os) (X := fun w _ => laidMetH Tryz.prog laid7 w) false (World.laidAll Tryz.prog os laid7) #[.agg #[.int .i64 0, .int .i64 0, .int .i64 0, .int .i64 0, .int .i64 0, .int .i64 0, .int .i64 0, .int .i64 0, .int .i64 0, .int .i64 0, .int .i64 0, .int .i64 0, .int .i64 0, .int .i64 0, .int .i64 0, .int .i64 0, .int .i64 0, .int .i64 0], .slice none 0 0] 8 (World.laidAll_os _ _ _) (World.shaped_of_ZipB (by kernel_rfl) (by kernel_rfl)) (by kernel_rfl) (by kernel_rfl) (by kernel_rfl) (door_met os _)) ?_
  · match ds, hl with
    | [d0, d1], _ => rfl
  intro W base args ds p hval hA hwt hlt hlaid hsh
  rw [Tryz.params7] at hA hval
  obtain ⟨hks, h0W⟩ := ks_of hlaid
  obtain ⟨v0, v1, d0, d1, p0, p1, rfl, rfl, rfl, h0, h1⟩ := trodAll_two hA
  obtain ⟨S, rfl⟩ := open_setup (hval 0 27 v0 rfl rfl) h0
  obtain ⟨A, n, cA, l, hs, rfl, hI, hn, hc, hnil⟩ := open_inps (hval 1 28 v1 rfl rfl) h1
  exact repeats_any S l hs A n cA W ⟨hks, h0W, hI, ⟨hn, hc⟩, hnil⟩

theorem CentreRepeats_row : Rows.CentreRepeatsSaid :=
  OpenClaim.holds_of_wide 7 Tryz.f7 rfl rfl rfl rfl rfl rfl rfl ⟨rfl, rfl, rfl, rfl, rfl⟩ rfl rfl rfl rfl rfl (by kernel_rfl) Tryz.func7 (by kernel_rfl)
    (of_decide_eq_true (by kernel_rfl)) (by unfold Func.isWrapper; rw [if_neg (of_decide_eq_false (by kernel_rfl))]; exact ⟨rfl, rfl⟩)
    (fun os started H enc _ => CentreRepeats_lifted os started H enc)

theorem CentreRepeats_holds : Rows.CentreRepeatsCardSaid :=
  Claim7.holds_tied_plain_at .later [] [.data, .data, .pinned] true (true, "b04f4bc368db86cd971aec41a7157e911366481ce75ba95dee482ec0a4a43df3") false
    CentreRepeats_row (fun _ h => by cases h) (by kernel_rfl) (fun _ h => by cases h) centreRepeats_row_tie rfl ⟨rfl, rfl⟩ (by kernel_rfl) rfl
    (fun f fn hf hfn => by
      obtain rfl : f = 7 := Option.some.inj ((show Tryz.prog.funcNamed "skyway/skywaykeep4.CentreRepeats" = some 7 by kernel_rfl).symm.trans hf) |>.symm
      obtain rfl : fn = Tryz.f7 := (Option.some.inj (Tryz.func7.symm.trans hfn)).symm
      exact ⟨by kernel_rfl, fun j t ht => by
        rw [Tryz.params7] at ht
        have hm : t ∈ [27, 28] := by simpa using Array.mem_of_getElem? ht
        have hall : ([27, 28].all fun u => !Tryz.prog.wantsStandIn u) = true := by kernel_rfl
        exact (show Tryz.prog.wantsStandIn t = false by simpa using List.all_eq_true.1 hall t hm)⟩)
    (by kernel_rfl)
end Go.Proofs.YtjmdcpcoliljfaaGreatDoor

