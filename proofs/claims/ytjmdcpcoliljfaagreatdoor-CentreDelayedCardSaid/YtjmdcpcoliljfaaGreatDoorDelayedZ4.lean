/- Texts U41, CloneIn, U47. -/
import Derived.Test.YtjmdcpcoliljfaaGreatDoorDelayedZ3
import Derived.Test.YtjmdcpcoliljfaaGreatDoorG05
/- The first function given to run in CentreRepeats: it keeps the accepted inputs. -/
namespace Go.Proofs.YtjmdcpcoliljfaaGreatDoor
open Go.RowKit

def inP (p : Inp × Hd) : List Value := inV p.1 p.2
theorem inP_len (p : Inp × Hd) : (inP p).length = 9 := rfl
instance : Inhabited (Inp × Hd) := ⟨(default, default)⟩
/-- The accepted inputs, kept in a row of the law's own. -/
structure AccM (F : Nat → Prop) (N b1 : Nat) (aA : Option Addr) (ac : Nat) (ps : List (Inp × Hd)) (w : World) : Prop where
  e : V1 b1 28 (.slice aA ps.length ac) w
  n : ¬ F b1
  own : OwnF (fun k => ¬ F k ∧ N ≤ k) w 35 9 (.slice aA ps.length ac) ps.length (rowsV inP ps)
  tb : ∀ p ∈ ps, TuN N p.2 p.1.tube w ∧ InB p.1
theorem AccM.below {F : Nat → Prop} {N b1 : Nat} {aA : Option Addr} {ac : Nat} {ps : List (Inp × Hd)} {w w' : World} (h : AccM F N b1 aA ac ps w) (hN : N ≤ w.heap.size) (hb : Below w.heap.size w w') : AccM F N b1 aA ac ps w' :=
  ⟨h.e.below hb, h.n, h.own.kept (.of_below hb), fun p hp => ⟨(h.tb p hp).1.below (hb.mono hN), (h.tb p hp).2⟩⟩
theorem AccM.off {F F' : Nat → Prop} {N b1 : Nat} {aA : Option Addr} {ac : Nat} {ps : List (Inp × Hd)} {w w' : World} (h : AccM F N b1 aA ac ps w) (ho : Off F w w') (hs : ∀ b, F' b → F b ∨ w.heap.size ≤ b) (hN : Below N w w') : AccM F' N b1 aA ac ps w' := by
  have hk : Kept (fun k => (¬ F k ∧ N ≤ k) ∧ k < w.heap.size) w w' := ⟨ho.size, fun k _ hf => ho.block k hf.2 hf.1.1⟩
  have hm : ∀ k, ((¬ F k ∧ N ≤ k) ∧ k < w.heap.size) → ¬ F' k ∧ N ≤ k := fun k hf => ⟨fun hf' => (hs k hf').elim hf.1.1 (fun h => by omega), hf.1.2⟩
  refine ⟨h.e.off ho h.n, fun hf => (hs b1 hf).elim h.n (fun hh => by have := h.e.lt; omega), ?_, fun p hp => ⟨(h.tb p hp).1.below hN, (h.tb p hp).2⟩⟩
  have : OwnF (fun k => (¬ F k ∧ N ≤ k) ∧ k < w.heap.size) w 35 9 (.slice aA ps.length ac) ps.length (rowsV inP ps) := ⟨h.own.1, fun k hk => ⟨h.own.2 k hk, (h.own.1.lt k hk).2⟩⟩
  exact (this.kept hk).mono hm
theorem inp_info : (Tryz.prog.info? 35).map (fun i => (i.zero, i.size, i.bytes)) = some (some (.agg #[.int .i64 0, .int .i64 0, .string ByteArray.empty, .string ByteArray.empty, .string ByteArray.empty, .slice none 0 0, .int .i64 0, .int .i64 0, .bool false]), 9, 112) := by kernel_rfl
set_option maxRecDepth 100000 in
theorem cl26_no (g b1 b2 b3 : Nat) (x : Inp) (A : Option Addr) (n cA : Nat) (k : Int) (hk : k ≠ 0) (w : World) :
    Calls Tryz.prog 26 #[.pointer (some ⟨g, 0, none⟩), inpV x A n cA, .int .i64 k, .pointer (some ⟨b1, 0, none⟩), .pointer (some ⟨b2, 0, none⟩), .pointer (some ⟨b3, 0, none⟩)] w fun e w' => e = .returned (.bool true) ∧ Below w.heap.size w w' := by
  have ek : (k == 0) = false := by simpa using hk
  unfold inpV
  go_enter Tryz.func26, Tryz.ntmps26
  go_wp2
  go_ret
  exact ⟨rfl, (Below.refl _ _).alloc (Nat.le_refl _) _⟩
/-- What the function may write. -/
def Thr (b1 b2 b3 : Nat) (u : Value) (k : Nat) : Prop := k = b1 ∨ k = b2 ∨ k = b3 ∨ u.ownBlock = some k
set_option maxRecDepth 100000 in
set_option maxHeartbeats 16000000 in
theorem cl26_yes {F : Nat → Prop} {g N : Nat} {S : Su} {c : Ce} {w : World} {b1 b2 b3 : Nat} {aA : Option Addr} {ac : Nat} {ps : List (Inp × Hd)} {u2 u3 : Value} (h : CeAt F g S c w) (hok : CeOk c)
    (ha : AccM F N b1 aA ac ps w) (h2 : V1 b2 37 u2 w) (h3 : V1 b3 55 u3 w) (hn2 : ¬ F b2) (hn3 : ¬ F b3) (n12 : b1 ≠ b2) (n13 : b1 ≠ b3) (n23 : b2 ≠ b3) (hN : N ≤ w.heap.size) (hNb : N ≤ b1 ∧ N ≤ b2 ∧ N ≤ b3) (hpl : ps.length ≤ 100)
    (x : Inp) (hd : Hd) (hT : TuN N hd x.tube w) (hB : InB x) :
    Calls Tryz.prog 26 #[.pointer (some ⟨g, 0, none⟩), inpV x hd.A hd.n hd.c, .int .i64 0, .pointer (some ⟨b1, 0, none⟩), .pointer (some ⟨b2, 0, none⟩), .pointer (some ⟨b3, 0, none⟩)] w fun e w' => e = .returned (.bool true) ∧
      (∃ aA' ac', AccM F N b1 aA' ac' (ps ++ [(x, hd)]) w') ∧ (∃ v oh, RefM F b2 b3 v oh c.fl c.ow w') ∧ Off (Thr b1 b2 b3 (.slice aA ps.length ac)) w w' := by
  obtain ⟨y, hM⟩ := h
  have HM := Lib.hid hM
  have HOk := Lib.hid hok
  have hbd : ∀ b, F b → b < w.heap.size := hM.bd
  have HA := Lib.hid ha
  have HV2 := Lib.hid h2
  have HV3 := Lib.hid h3
  have HT := Lib.hid hT
  have HIB := Lib.hid hB
  have HN2 := Lib.hid (And.intro hn2 hn3)
  have hlt1 := ha.e.lt
  have hlt2 := h2.lt
  have hlt3 := h3.lt
  obtain ⟨hdA, hdN, hdC⟩ := hd
  obtain ⟨V, hV⟩ : ∃ V, w.alloc (inpO x hdA hdN hdC) = V := ⟨_, rfl⟩
  have hbV : Below w.heap.size w V := by rw [← hV]; exact (Below.refl _ _).alloc (Nat.le_refl _) _
  have hrV : V.heap[w.heap.size]? = some (inpO x hdA hdN hdC) := by rw [← hV]; exact heap_alloc_new _ _
  have hzV : V.heap.size = w.heap.size + 1 := by rw [← hV, size_al]
  have HBV := Lib.hid hbV
  obtain ⟨m, hm⟩ : ∃ m, ps.length = m := ⟨_, rfl⟩
  have HMl := Lib.hid hm
  have HOwn := Lib.hid (by have h := (ha.own.kept (.of_below hbV)).1; rw [hm] at h; exact h : V.ownsRow 0 35 9 (.slice aA m ac) m (rowsV inP ps))
  have k1 : V.cell? ⟨b1, 0, none⟩ = some (.slice aA m ac) := by rw [← hm]; exact (ha.e.below hbV).cell
  rw [hm] at hpl
  clear hM hok ha h2 h3 hT hB hn2 hn3 hbV
  dsimp only
  rw [hm]
  unfold inpV
  unfold inpO at hV hrV
  clear hm
  obtain ⟨i35, J0, J1, J2, J3⟩ := info_parts inp_info
  have hga : ∀ k, (Value.slice aA m ac).ownBlock = some k → (¬ F k ∧ N ≤ k) ∧ k < w.heap.size ∧ k ≠ b1 ∧ k ≠ b2 ∧ k ≠ b3 := fun k hk => by
    have hk' : (Value.slice aA ps.length ac).ownBlock = some k := by rw [HMl.out]; exact hk
    refine ⟨HA.out.own.2 k hk', (HA.out.own.1.lt k hk').2, fun e => ?_, fun e => ?_, fun e => ?_⟩
    · subst e; exact HA.out.own.other HA.out.e (by decide) hk'
    · subst e; exact HA.out.own.other HV2.out (by decide) hk'
    · subst e; exact HA.out.own.other HV3.out (by decide) hk'
  have HGa := Lib.hid hga
  have HFl := Lib.hid (fun (W : World) (hk : Kept F w W) => Flights_any (HM.out.kept hk) HOk.out)
  have HOw := Lib.hid (fun (W : World) (hk : Kept F w W) => Owners_any (HM.out.kept hk) HOk.out)
  unfold OwCp at HOw
  have tok : True := trivial
  clear hga
  have HE1 : Hid (V1 b1 28 (.slice aA m ac) w) := Lib.hid (by have h := HA.out.e; rw [HMl.out] at h; exact h)
  have HZV := Lib.hid hzV
  clear hzV
  go_enter Tryz.func26, Tryz.ntmps26
  go_upto_region 3 with (first
    | (first | (refine wpList_load_row rfl 35 _ rfl w.heap.size rfl 35 _ (0, 0) _ hrV Tryz.underlying35 rfl (by kernel_rfl) ?_) | (refine wpList_load_row_w 35 _ rfl w.heap.size rfl rfl 35 _ (0, 0) _ hrV Tryz.underlying35 rfl (by kernel_rfl) ?_))
    | (at_builtin; go_loud (refine wpList_append_oneN V _ rfl #[.int .i64 x.kind, .int .i64 x.time, .string x.call, .string x.by_, .string x.to_, .slice hdA hdN hdC, .int .i64 x.wake, .int .i64 x.slot, .bool x.lands] rfl (.tmp 12) (.tmp 14) 28 rfl 0 35 i35 _ 9 112 Tryz.underlying28 J0 J1 J2 J3 rfl (by decide) (.slice aA m ac) m (rowsV inP ps) rfl HOwn.out rfl rfl (by simp [Value.oneCell']) (by omega) (by decide) (by omega) ?_; intro g3 cap3 w3 hown3 hg3 hat3 hlt3; have hz3 := hg3.size; have hzv := HZV.out; have hsame : ∀ k, k < w.heap.size → (Value.slice aA m ac).ownBlock ≠ some k → w3.heap[k]? = w.heap[k]? := fun k hk hne => (hg3.block k (by simp only [size_al]; omega) (fun e => hne e.symm)).trans ((((Below.refl V.heap.size V).alloc (Nat.le_refl _) _).block k (by omega)).trans (HBV.out.block k hk)); have hk3 : Kept F w w3 := ⟨by simp only [size_al] at hz3; omega, fun k hk hf => hsame k hk (fun e => (HGa.out k e).1.1 hf)⟩; have HO3 := Lib.hid hown3; have HG3 := Lib.hid hg3; have HA3 := Lib.hid hat3; have HS3 := Lib.hid hsame; have HK3 := Lib.hid hk3; have HL3 := Lib.hid hlt3; clear hown3 hg3 hat3 hsame hk3 hlt3 hz3 hzv))
    | (go_at_call 14; go_loud (refine (HFl.out w3 HK3.out).mono ?_; rintro e w4 ⟨⟨vA, vn, vc⟩, rfl, hc4, hb4⟩; have HC4 := Lib.hid hc4; have HB4 := Lib.hid hb4; clear hc4 hb4))
    | (go_at_call 20; go_loud (refine (HOw.out w4 ⟨Nat.le_trans HK3.out.1 HB4.out.size, fun k hk hf => (HB4.out.block k (Nat.lt_of_lt_of_le hk HK3.out.1)).trans (HK3.out.2 k hk hf)⟩).mono ?_; rintro e w5 ⟨oA, oc, rfl, ho5, hb5⟩; have HO5 := Lib.hid ho5; have HB5 := Lib.hid (HB4.out.trans (hb5.mono HB4.out.size)); have HB45 := Lib.hid hb5; have q1 : V1 b1 28 (.slice aA m ac) w5 := (HB5.out.block b1 (Nat.lt_of_lt_of_le hlt1 HK3.out.1)).trans ((HS3.out b1 hlt1 (fun e => (HGa.out b1 e).2.2.1 rfl)).trans HE1.out); have q2 : V1 b2 37 u2 w5 := (HB5.out.block b2 (Nat.lt_of_lt_of_le hlt2 HK3.out.1)).trans ((HS3.out b2 hlt2 (fun e => (HGa.out b2 e).2.2.2.1 rfl)).trans HV2.out); have q3 : V1 b3 55 u3 w5 := (HB5.out.block b3 (Nat.lt_of_lt_of_le hlt3 HK3.out.1)).trans ((HS3.out b3 hlt3 (fun e => (HGa.out b3 e).2.2.2.2 rfl)).trans HV3.out); have k1 := q1.cell; have z1 := q1.frozen; have k2 := q2.cell; have z2 := q2.frozen; have k3 := q3.cell; have z3 := q3.frozen; have Q := Lib.hid (And.intro q1 (And.intro q2 q3)); clear ho5 hb5 q1 q2 q3)))
  obtain ⟨w7, hw7⟩ : ∃ W, (((w5.setCell ⟨b1, 0, none⟩ (.slice (some ⟨g3, 0, none⟩) (m + 1) cap3)).setCell ⟨b2, 0, none⟩ (.slice vA vn vc)).setCell ⟨b3, 0, none⟩ (.slice oA c.ow.length oc)) = W := ⟨_, rfl⟩
  rw [hw7]
  have HW7 := Lib.hid hw7
  clear hw7 k1 z1 k2 z2 k3 z3
  go_wp2_with fail
  go_ret
  obtain ⟨q1, q2, q3⟩ := Q.out
  have hz35 := HB5.out.size
  have hw3 := HK3.out.1
  have r1 : V1 b1 28 (.slice (some ⟨g3, 0, none⟩) (m + 1) cap3) w7 := by rw [← HW7.out]; exact ((q1.set _).other n12 _).other n13 _
  have p2 : V1 b2 37 u2 (w5.setCell ⟨b1, 0, none⟩ (.slice (some ⟨g3, 0, none⟩) (m + 1) cap3)) := q2.other (Ne.symm n12) _
  have r2 : V1 b2 37 (.slice vA vn vc) w7 := by rw [← HW7.out]; exact (p2.set _).other n23 _
  have p3 : V1 b3 55 u3 ((w5.setCell ⟨b1, 0, none⟩ (.slice (some ⟨g3, 0, none⟩) (m + 1) cap3)).setCell ⟨b2, 0, none⟩ (.slice vA vn vc)) := (q3.other (Ne.symm n13) _).other (Ne.symm n23) _
  have r3 : V1 b3 55 (.slice oA c.ow.length oc) w7 := by rw [← HW7.out]; exact p3.set _
  have ho7 : ∀ k, k ≠ b1 → k ≠ b2 → k ≠ b3 → w7.heap[k]? = w5.heap[k]? := fun k h1 h2 h3 => by
    rw [← HW7.out]
    exact (Below.heap_setCell _ _ _ _ h3).trans ((Below.heap_setCell _ _ _ _ h2).trans (Below.heap_setCell _ _ _ _ h1))
  have hz7 : w7.heap.size = w5.heap.size := by rw [← HW7.out]; simp [World.setCell]
  have hos : w7.os = w.os ∧ w7.tape = w.tape ∧ w7.output = w.output := by
    rw [← HW7.out]
    exact ⟨(show w5.os = w.os from HB5.out.os.trans (HG3.out.os.trans HBV.out.os)), (show w5.tape = w.tape from HB5.out.tape.trans (HG3.out.tape.trans HBV.out.tape)), (show w5.output = w.output from HB5.out.output.trans (HG3.out.output.trans HBV.out.output))⟩
  have hfr : ∀ k, k < w.heap.size → ¬ Thr b1 b2 b3 (.slice aA m ac) k → w7.heap[k]? = w.heap[k]? := fun k hk hf =>
    (ho7 k (fun e => hf (.inl e)) (fun e => hf (.inr (.inl e))) (fun e => hf (.inr (.inr (.inl e))))).trans ((HB5.out.block k (by omega)).trans (HS3.out k hk (fun e => hf (.inr (.inr (.inr e))))))
  have hnF : ∀ k, w.heap.size ≤ k → ¬ F k := fun k hk hf => by have := hbd k hf; omega
  have hbelN : Below N w w7 := ⟨hos.1, hos.2.1, hos.2.2, by omega, fun k hk => hfr k (by omega) (fun hf => by
    rcases hf with h | h | h | h
    · omega
    · omega
    · omega
    · have := (HGa.out k h).1.2; omega)⟩
  have hC7 : CpM (fun k => w3.heap.size ≤ k) ⟨vA, vn, vc⟩ c.fl w7 := by
    have h5 : CpM (fun k => w3.heap.size ≤ k) ⟨vA, vn, vc⟩ c.fl w5 := HC4.out.kept (.of_below HB45.out)
    rw [← HW7.out]
    exact (((h5.set (p := ⟨b1, 0, none⟩) q1 (by decide) (by decide) (by decide) _).set (p := ⟨b2, 0, none⟩) p2 (by decide) (by decide) (by decide) _).set (p := ⟨b3, 0, none⟩) p3 (by decide) (by decide) (by decide) _)
  have hO7 : OwnF (fun k => w3.heap.size ≤ k) w7 57 3 (.slice oA c.ow.length oc) c.ow.length (rowsV owV c.ow) := by
    have h5 : OwnF (fun k => w3.heap.size ≤ k) w5 57 3 (.slice oA c.ow.length oc) c.ow.length (rowsV owV c.ow) := HO5.out.mono fun k hk => Nat.le_trans HB4.out.size hk
    exact h5.stay fun k hk => by
      have hk3 : w3.heap.size ≤ k := h5.2 k hk
      exact ho7 k (by omega) (by omega) (by omega)
  have hown : OwnF (fun k => ¬ F k ∧ N ≤ k) w7 35 9 (.slice (some ⟨g3, 0, none⟩) (m + 1) cap3) (m + 1) (rowsV inP (ps ++ [(x, (⟨hdA, hdN, hdC⟩ : Hd))])) := by
    have h3 : OwnF (fun k => ¬ F k ∧ N ≤ k) w3 35 9 (.slice (some ⟨g3, 0, none⟩) (m + 1) cap3) (m + 1) (rowsV inP (ps ++ [(x, (⟨hdA, hdN, hdC⟩ : Hd))])) := by
      refine ⟨?_, fun k hk => ?_⟩
      · have h := HO3.out
        rw [rowsV_snoc]
        exact h
      · have e : g3 = k := by simpa [Value.ownBlock] using hk
        subst e
        rcases HA3.out with h | h
        · exact (HGa.out _ h).1
        · have := HZV.out
          exact ⟨hnF _ (by omega), by omega⟩
    have h5 := h3.kept (.of_below HB5.out)
    rw [← HW7.out]
    exact (((h5.set (p := ⟨b1, 0, none⟩) q1 (by decide) _).set (p := ⟨b2, 0, none⟩) p2 (by decide) _).set (p := ⟨b3, 0, none⟩) p3 (by decide) _)
  have hlen : (ps ++ [(x, (⟨hdA, hdN, hdC⟩ : Hd))]).length = m + 1 := by rw [List.length_append, HMl.out]; rfl
  refine ⟨rfl, ⟨some ⟨g3, 0, none⟩, cap3, ⟨by rw [hlen]; exact r1, HA.out.n, by rw [hlen]; exact hown, fun p hp => ?_⟩⟩, ⟨⟨vA, vn, vc⟩, ⟨oA, c.ow.length, oc⟩, ⟨r2, r3, HN2.out.1, HN2.out.2, n23, hC7.mono fun k hk => hnF k (by omega), rfl, hO7.mono fun k hk => hnF k (by omega)⟩⟩, ⟨hos.1, hos.2.1, hos.2.2, by omega, hfr⟩⟩
  rcases List.mem_append.1 hp with hp | hp
  · exact ⟨(HA.out.tb p hp).1.below hbelN, (HA.out.tb p hp).2⟩
  · rw [List.mem_singleton.1 hp]
    exact ⟨HT.out.below hbelN, HIB.out⟩
end Go.Proofs.YtjmdcpcoliljfaaGreatDoor

/- slices.Clone, one instance. -/
namespace Go.Proofs.YtjmdcpcoliljfaaGreatDoor
open Go.RowKit

theorem CloneIn_info : (Tryz.prog.info? 35).map (fun i => (i.zero, i.size, i.bytes)) = some (some (.agg #[.int .i64 0, .int .i64 0, .string ByteArray.empty, .string ByteArray.empty, .string ByteArray.empty, .slice none 0 0, .int .i64 0, .int .i64 0, .bool false]), 9, 112) := by kernel_rfl

set_option maxHeartbeats 1000000 in
theorem CloneIn_any (A : Option Addr) (n c : Nat) (row : Nat → List Value) (w : World) (hA : Sl w w.heap.size 9 A n row) (hl : ∀ i, i < n → (row i).length = 9) (h1 : ∀ i, i < n → ∀ u ∈ row i, u.oneCell' = true)
    (hnil : A = none → n = 0) (hn : n ≤ maxLen) (hby : n * 112 ≤ 140737488355328) :
    Calls Tryz.prog 33 #[.slice A n c] w fun e w' => ∃ v, e = .returned v ∧ w'.ownsRow w.heap.size 35 9 v n (flatR row n) ∧ Below w.heap.size w w' := by
  cases A with
  | none =>
    obtain rfl := hnil rfl
    have hk := fun (W : World) => Lib.run_eql_slice_nil (P := Tryz.prog) W 28 35 none 0 c 0 0 Tryz.underlying28
    go_enter Tryz.func33, Tryz.ntmps33
    go_wp2
    go_ret
    exact ⟨_, rfl, World.ownsRow_nil _ _ _ _, Below.refl _ _⟩
  | some ad =>
    have hk := fun (W : World) => Lib.run_eql_slice_nil (P := Tryz.prog) W 28 35 (some ad) n c 0 0 Tryz.underlying28
    obtain ⟨i0, J0, J1, J2, J3⟩ := info_parts CloneIn_info
    have hbn : Below w.heap.size w (w.alloc (.cells #[] 35)) := (Below.refl _ _).alloc (Nat.le_refl _) _
    have hnews := Sl_news (by decide) (hA.below hbn) rfl hl
    have hlen := flatR_len n hl
    have hone : ∀ u ∈ flatR row n, u.oneCell' = true := fun u hu => by
      obtain ⟨i, hi, hu⟩ := flatR_mem hu
      exact h1 i hi u hu
    have HN := Lib.hid hnews
    have HL := Lib.hid hlen
    have HO := Lib.hid hone
    clear hnews hlen hone h1 hl
    go_enter Tryz.func33, Tryz.ntmps33
    go_wp2_with (at_builtin; refine wpList_append_own _ rfl (.tmp 5) (.tmp 6) 28 rfl w.heap.size 35 i0 _ 9 112 Tryz.underlying28 J0 J1 J2 J3 rfl (by decide) (.slice (some ⟨w.heap.size, 0, none⟩) 0 0) 0 [] rfl (World.ownsRow_made w #[] 0 (Nat.le_refl _) (by decide) rfl) ad n c (flatR row n) rfl HL.out HN.out HO.out (by omega) (by omega) (by simp) ?_; intro v' w' hown hg hni)
    go_ret
    refine ⟨_, rfl, ?_, hbn.grown hg hbn.size (fun k hk => by simp [Value.ownBlock] at hk; omega)⟩
    rw [Nat.zero_add, List.nil_append] at hown
    exact hown

end Go.Proofs.YtjmdcpcoliljfaaGreatDoor

/- The inputs of CentreShifted and CentreDelayed: a copy, moved and later one by one. -/
namespace Go.Proofs.YtjmdcpcoliljfaaGreatDoor
open Go.RowKit

/-- Behind a piece of code there is one way to go on. -/
def AtQ (A0 : Act) (W0 : World) : Exit → Act → World → Prop
  | .normal, a, w => a = A0 ∧ w = W0
  | _, _, _ => False
theorem AtQ.mk {A0 : Act} {W0 : World} : AtQ A0 W0 .normal A0 W0 := ⟨rfl, rfl⟩
theorem wp_join {P : Program} {c : Code} {Q : Exit → Act → World → Prop} {a : Act} {w : World} {A0 : Act} {W0 : World} (h : c.wp P (AtQ A0 W0) a w) (hq : Q .normal A0 W0) : c.wp P Q a w :=
  wp_mono h fun e a w he => by
    cases e <;> first | exact False.elim he | (obtain ⟨rfl, rfl⟩ := he; exact hq)
theorem TuM.mono_ {a b : Nat} {x : Hd} {t : Tu} {w : World} (h : TuM (fun q => a ≤ q) x t w) (hab : b ≤ a) : TuM (fun q => b ≤ q) x t w := ⟨h.1, h.2.mono fun _ hk => Nat.le_trans hab hk⟩
def mvI (d : Mv) (x : Inp) : Inp := { x with time := x.time + d.dt, tube := shT d x.tube, slot := x.slot + d.dt }
/-- The first k inputs of the copy are moved and later. -/
structure MvA (d : Mv) (l : List Inp) (hs : List Hd) (base : Nat) (A : Option Addr) (m c k : Nat) (ps : List (Inp × Hd)) (w : World) : Prop where
  n : ps.length = m
  own : w.ownsRow base 35 9 (.slice A m c) m (rowsV inP ps)
  done : ∀ i, i < k → (ps[i]!).1 = mvI d l[i]! ∧ TuM (fun q => base ≤ q) (ps[i]!).2 (shT d (l[i]!).tube) w ∧ ShI d l[i]! (mvI d l[i]!)
  todo : ∀ i, k ≤ i → i < m → ps[i]! = (l[i]!, hs[i]!)
section
variable {d : Mv} {l : List Inp} {hs : List Hd} {base : Nat} {A : Option Addr} {m c k : Nat} {ps : List (Inp × Hd)} {w w' : World}
theorem MvA.below (h : MvA d l hs base A m c k ps w) (hb : Below w.heap.size w w') : MvA d l hs base A m c k ps w' :=
  ⟨h.n, own_below h.own hb (Nat.le_refl _), fun i hi => ⟨(h.done i hi).1, (h.done i hi).2.1.kept (.of_below hb), (h.done i hi).2.2⟩, h.todo⟩
theorem MvA.at (h : MvA d l hs base A m c k ps w) (h0 : 0 < m) : ∃ b, A = some ⟨b, 0, none⟩ ∧ base ≤ b ∧ b < w.heap.size ∧ (∀ j, w.frozen? ⟨b, j, none⟩ = false) ∧ (∃ cur, w.heap[b]? = some (.cells cur 35 (0, 0))) ∧ ∀ i, i < m → ∀ j v, (inP ps[i]!)[j]? = some v → w.cell? ⟨b, i * 9 + j, none⟩ = some v := by
  rcases h.own.2 with ⟨_, hz⟩ | ⟨g, cap, cur, e, hb, hg, _⟩
  · omega
  · injection e with e
    subst e
    refine ⟨g, rfl, hb, (Array.getElem?_eq_some_iff.1 hg).1, fun j => frozen_of_row _ _ _ _ _ hg, ⟨cur, hg⟩, fun i hi j v hj => ?_⟩
    obtain ⟨b, off, e, _, hr⟩ := (Sl_rows inP_len h.own h.n (by decide)) h0
    injection e with e
    injection e with e1 e2
    subst e1
    subst e2
    have := hr i hi j v
    simpa using this hj
theorem in_set {W : World} {base g n c i : Nat} {l : List (Inp × Hd)} (h : W.ownsRow base 35 9 (.slice (some ⟨g, 0, none⟩) n c) n (rowsV inP l)) (hl : l.length = n) (hi : i < n) (j : Nat) (hj : j < 9) (u : Value) (x : Inp × Hd) (hx : (inP l[i]!).set j u = inP x) :
    (W.setCell ⟨g, i * 9 + j, none⟩ u).ownsRow base 35 9 (.slice (some ⟨g, 0, none⟩) n c) n (rowsV inP (l.set i x)) := by
  have := (h.stored (i * 9 + j) u).1
  rwa [rowsV_cell inP_len l i (by omega) j hj u x hx] at this
/-- One more is done; by then the world is w', in which only the copy has been written. -/
theorem MvA.next (h : MvA d l hs base A m c k ps w) (hk : k < m) {v : Hd} (hrow : w'.ownsRow base 35 9 (.slice A m c) m (rowsV inP (ps.set k (mvI d l[k]!, v)))) (ht : TuM (fun q => base ≤ q) v (shT d (l[k]!).tube) w')
    (hkeep : ∀ (x : Hd) (t : Tu), TuM (fun q => base ≤ q) x t w → TuM (fun q => base ≤ q) x t w') (hI : ShI d l[k]! (mvI d l[k]!)) : MvA d l hs base A m c (k + 1) (ps.set k (mvI d l[k]!, v)) w' := by
  have hn := h.n
  have e1 : (ps.set k (mvI d l[k]!, v))[k]! = (mvI d l[k]!, v) := by
    rw [getElem!_pos _ k (by rw [List.length_set]; omega)]
    simp
  have e2 : ∀ i, i ≠ k → (ps.set k (mvI d l[k]!, v))[i]! = ps[i]! := fun i hi => by
    simp only [getElem!_def]
    rw [List.getElem?_set_ne (Ne.symm hi)]
  refine ⟨by rw [List.length_set]; exact hn, hrow, fun i hi => ?_, fun i hi hm => ?_⟩
  · by_cases e : i = k
    · subst e
      rw [e1]
      exact ⟨rfl, ht, hI⟩
    · rw [e2 i e]
      obtain ⟨a1, a2, a3⟩ := h.done i (by omega)
      exact ⟨a1, hkeep _ _ a2, a3⟩
  · rw [e2 i (by omega)]
    exact h.todo i (by omega) hm
theorem flatR_same {r r' : Nat → List Value} : ∀ (n : Nat), (∀ i, i < n → r i = r' i) → flatR r n = flatR r' n
  | 0, _ => rfl
  | n + 1, h => by rw [flatR_succ, flatR_succ, flatR_same n fun i hi => h i (by omega), h n (by omega)]
theorem inP_one (p : Inp × Hd) : ∀ u ∈ inP p, u.oneCell' = true := by
  intro u hu
  simp only [inP, inV, List.mem_cons, List.not_mem_nil, or_false] at hu
  rcases hu with rfl | rfl | rfl | rfl | rfl | rfl | rfl | rfl | rfl <;> rfl
/-- slices.Clone of the first m inputs. -/
theorem clone_in {N n cA : Nat} {A A2 : Option Addr} {l : List Inp} {hs : List Hd} {w : World} (d : Mv) (h : InsA N A n l hs w) (hN : N ≤ w.heap.size) {m c2 : Nat} (hm : m ≤ n) (h12 : m ≤ 12) (hA : 0 < m → A2 = A) (hnil : A = none → n = 0 ∧ cA = 0) :
    Calls Tryz.prog 33 #[.slice A2 m c2] w fun e w' => ∃ (A' : Option Addr) (c' : Nat) (ps : List (Inp × Hd)), e = .returned (.slice A' m c') ∧ MvA d l hs w.heap.size A' m c' 0 ps w' ∧ Below w.heap.size w w' := by
  have hSl : Sl w w.heap.size 9 A2 m (fun i => inV l[i]! hs[i]!) := fun h0 => by
    obtain ⟨b, off, e, hb, hr⟩ := h.row (by omega)
    exact ⟨b, off, (hA h0).trans e, by omega, fun i hi => hr i (by omega)⟩
  refine (CloneIn_any A2 m c2 _ w hSl (fun _ _ => rfl) (fun i _ => inP_one (l[i]!, hs[i]!)) (fun e => ?_) (by unfold maxLen; omega) (by omega)).mono ?_
  · refine Nat.eq_zero_of_not_pos fun h0 => ?_
    have := hnil ((hA h0).symm.trans e)
    omega
  · rintro e w' ⟨v, rfl, ho, hb⟩
    obtain ⟨A', c', rfl⟩ := own_shape ho
    refine ⟨A', c', (List.range m).map fun i => (l[i]!, hs[i]!), rfl, ⟨by simp, ?_, fun i hi => absurd hi (by omega), fun i _ hi => ?_⟩, hb⟩
    · rw [rowsV_flat inP_len, show ((List.range m).map fun i => (l[i]!, hs[i]!)).length = m by simp]
      rw [flatR_same (r' := fun i => inV l[i]! hs[i]!) m fun i hi => ?_]
      · exact ho
      · rw [getElem!_pos _ i (by simpa using hi)]
        simp [inP]
    · rw [getElem!_pos _ i (by simpa using hi)]
      simp
end
end Go.Proofs.YtjmdcpcoliljfaaGreatDoor

