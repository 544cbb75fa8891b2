/- The walk of MailboxForced. -/
import Derived.Deep.Cut
import Derived.Test.YtblcgmihdgnhbaaB3
import Derived.Test.YtblcgmihdgnhbaaC4
namespace Go.Proofs.Ytblcgmihdgnhbaa
open Go.RowKit Go.Shelf

attribute [local go_sem] Oper.semAt_some

/-- Block B holds eight numbers. -/
def Cnts (B : Nat) (W : World) (f : Nat → Int) : Prop := ∃ C, W.heap[B]? = some (.cells C 41 (0, 0)) ∧ Tab C 8 f

theorem Cnts.kept {B : Nat} {W W' : World} {f : Nat → Int} {row : Option Nat} (h : Cnts B W f) (hg : W.grownBy W' row) (hne : some B ≠ row) : Cnts B W' f := by
  obtain ⟨C, h1, h2⟩ := h
  exact ⟨C, (hg.block B (Array.getElem?_eq_some_iff.1 h1).1 hne).trans h1, h2⟩
theorem Cnts.same {B : Nat} {W W' : World} {f : Nat → Int} (h : Cnts B W f) (he : W'.heap[B]? = W.heap[B]?) : Cnts B W' f := by
  obtain ⟨C, h1, h2⟩ := h
  exact ⟨C, he.trans h1, h2⟩
theorem Cnts.lt {B : Nat} {W : World} {f : Nat → Int} (h : Cnts B W f) : B < W.heap.size := by
  obtain ⟨C, h1, _⟩ := h
  exact (Array.getElem?_eq_some_iff.1 h1).1
theorem cnts_own {β : Type} (B : Nat) (f : β → Nat → Int) : Own (fun s W => Cnts B W (f s)) := fun s X Y row hs hg hrow =>
  hs.kept hg (fun e' => by obtain ⟨o, ho, hc⟩ := hrow B e'.symm; obtain ⟨C, h1, _⟩ := hs; rw [h1] at ho; cases ho; cases hc)
theorem Cnts.cell {B : Nat} {W : World} {f : Nat → Int} (h : Cnts B W f) (i : Nat) (hi : i < 8) : W.cell? ⟨B, i, none⟩ = some (.int .i64 (f i)) := by
  obtain ⟨C, h1, h2⟩ := h
  exact (cell_of_row _ _ _ _ _ _ h1).trans (h2.2 i hi)
theorem Cnts.frozen {B : Nat} {W : World} {f : Nat → Int} (h : Cnts B W f) (i : Nat) : W.frozen? ⟨B, i, none⟩ = false := by
  obtain ⟨C, h1, _⟩ := h
  exact frozen_of_row _ _ _ _ _ h1
theorem Cnts.set {B : Nat} {W : World} {f g : Nat → Int} (h : Cnts B W f) (i : Nat) (v : Int) (hi : i < 8) (he : ∀ s, s < 8 → g s = if s = i then v else f s) : Cnts B (W.setCell ⟨B, i, none⟩ (.int .i64 v)) g := by
  obtain ⟨C, h1, h2⟩ := h
  exact ⟨_, heap_setCell_same _ _ _ _ _ _ h1, (h2.set i v hi).congr fun s hs => (he s hs).symm⟩
theorem Cnts.other {B B' : Nat} {W : World} {f : Nat → Int} (h : Cnts B W f) (hne : B ≠ B') (i : Nat) (v : Value) : Cnts B (W.setCell ⟨B', i, none⟩ v) f := h.kept (grown_setCell W B' i v) (fun e => hne (by cases e; rfl))
theorem Cnts.new (W : World) (B : Nat) (hB : B = W.heap.size) : Cnts B (W.alloc (.cells #[.int .i64 0, .int .i64 0, .int .i64 0, .int .i64 0, .int .i64 0, .int .i64 0, .int .i64 0, .int .i64 0] 41)) (fun _ => 0) := by
  subst hB
  refine ⟨_, heap_alloc_new W _, rfl, fun s hs => ?_⟩
  have : s = 0 ∨ s = 1 ∨ s = 2 ∨ s = 3 ∨ s = 4 ∨ s = 5 ∨ s = 6 ∨ s = 7 := by omega
  rcases this with rfl | rfl | rfl | rfl | rfl | rfl | rfl | rfl <;> rfl

theorem kpm_set {n0 b : Nat} (W : World) (i : Nat) (v : Value) (hb : b < n0) : KpM n0 W (W.setCell ⟨b, i, none⟩ v) :=
  ⟨(grown_setCell W b i v).size, fun k C t hk _ hC => ((grown_setCell W b i v).block k (Array.getElem?_eq_some_iff.1 hC).1 (fun e => by cases e; omega)).trans hC⟩

theorem and7 (p : Nat) (hp : p < 8) : bits .and .i64 (p : Int) 7 = (p : Int) := by
  have h : p = 0 ∨ p = 1 ∨ p = 2 ∨ p = 3 ∨ p = 4 ∨ p = 5 ∨ p = 6 ∨ p = 7 := by omega
  rcases h with rfl | rfl | rfl | rfl | rfl | rfl | rfl | rfl <;> decide

def frF (size prio : Int) (A : Option Addr) (n c g T p : Nat) (x : Fin 8 × Int) : Act := { tmps := #[.int .i64 size, .slice A n c, .int .i64 (p : Int), undef, undef, undef, .bool false, .pointer (some ⟨g, 0, none⟩), .pointer (some ⟨T, 0, none⟩), .pointer (some ⟨T + 1, 0, none⟩), .pointer (some ⟨T + 1 + 1, 0, none⟩), .int .i64 ((x.1.val : Nat) : Int), undef, undef, undef, undef, undef, .int .i64 size, .slice A n c, .pointer (some ⟨g, 0, none⟩), .pointer (some ⟨g, 0, none⟩), .bool false, .bool false, .bool true, .bool false, .bool false, .int .i64 prio, .int .i64 (p : Int), .pointer (some ⟨g, 0, none⟩), .func (.func 16) #[] #[.pointer (some ⟨T + 1 + 1 + 1, 0, none⟩)], .int .i64 ((x.1.val : Nat) : Int), .int .i64 x.2, undef, undef, undef, undef, undef, undef, undef, undef, undef, undef, undef, undef, undef, undef, undef, undef, undef, undef, undef, undef, undef, undef, undef, undef, undef, undef, undef, undef, undef, undef, undef, undef, undef, undef, undef, undef, undef, undef, undef, undef, undef, undef, undef, undef, undef, undef, undef, undef, undef, undef, undef, undef, undef, undef, undef, undef, undef, undef, undef, undef, undef, undef, undef, undef, undef, undef, undef, undef, undef, undef, undef, undef, undef, undef, undef, undef, undef, undef, undef], defers := [] }

def frG (size prio y er : Int) (fb is : Bool) (A : Option Addr) (n c g T p m s q6 : Nat) (x : Fin 8 × Int) : Act := { tmps := #[.int .i64 size, .slice A n c, .int .i64 (p : Int), undef, undef, undef, .bool false, .pointer (some ⟨g, 0, none⟩), .pointer (some ⟨T, 0, none⟩), .pointer (some ⟨T + 1, 0, none⟩), .pointer (some ⟨T + 1 + 1, 0, none⟩), undef, .bool fb, .int .i64 y, .bool is, .int .i64 er, .int .i64 ((x.1.val : Nat) : Int), .int .i64 size, .slice A n c, .pointer (some ⟨g, 0, none⟩), .pointer (some ⟨g, 0, none⟩), .bool false, .bool false, .bool true, .bool false, .bool false, .int .i64 prio, .int .i64 (p : Int), .pointer (some ⟨g, 0, none⟩), .func (.func 16) #[] #[.pointer (some ⟨T + 1 + 1 + 1, 0, none⟩)], undef, undef, undef, undef, undef, undef, undef, undef, undef, undef, undef, .pointer (some ⟨g, 0, none⟩), .int .i64 (m : Int), .int .i64 size, .int .i64 (s : Int), .bool fb, .tuple #[.int .i64 y, .bool is, .int .i64 er], .pointer (some ⟨g, 0, none⟩), .int .i64 (p : Int), .tuple #[.int .i64 y, .bool is, .int .i64 er], .int .i64 y, .bool is, .int .i64 er, .pointer (some ⟨g, 0, none⟩), .func (.func 16) #[] #[.pointer (some ⟨q6, 0, none⟩)], .int .i64 ((x.1.val : Nat) : Int), .int .i64 x.2, undef, undef, undef, undef, undef, undef, undef, undef, undef, undef, undef, undef, undef, undef, undef, undef, undef, undef, undef, undef, undef, undef, undef, undef, undef, undef, undef, undef, undef, undef, undef, undef, undef, undef, undef, undef, undef, undef, undef, undef, undef, undef, undef, undef, undef, undef, undef, undef, undef, undef, undef, undef, undef, undef], defers := [] }

theorem ownFrom_grown {β : Type} (W7 : World) (B0 : Nat) : OwnFrom W7.heap.size (fun (_ : β) W' => W7.grownBy W' (some B0)) := fun _ A B row hs hg hr =>
  ⟨hg.os.trans hs.os, hg.tape.trans hs.tape, hg.output.trans hs.output, Nat.le_trans hs.size hg.size, fun k hk hkB => (hg.block k (Nat.lt_of_lt_of_le hk hs.size) (fun e => by have := (hr k e.symm).1; omega)).trans (hs.block k hk hkB)⟩

theorem BoxAt.keptB {g b : Nat} {sz cnt : Int} {vs : Nat → Value} {ls : Nat → List Int} {C D : Array Value} {w w' : World} (h : BoxAt g sz cnt vs ls C w) (hg : w.grownBy w' (some b)) (hb : w.heap[b]? = some (.cells D 41 (0, 0))) : BoxAt g sz cnt vs ls C w' := by
  have hbg : ¬ g = b := by
    rintro rfl
    rw [h.blk] at hb
    cases hb
  refine ⟨(hg.block g h.lt (fun e => hbg (by cases e; rfl))).trans h.blk, h.size, h.c0, h.c1, h.cv, fun q hq => (h.own q hq).kept hg ?_, h.apart⟩
  have ho := h.own q hq
  rcases ho.2 with ⟨e, _⟩ | ⟨g', cap, cur, e, _, hgb, _⟩
  · exact .inl (by rw [e]; rfl)
  · right
    rw [e]
    intro he
    obtain rfl : g' = b := by simpa [Value.ownBlock] using he
    rw [hb] at hgb
    cases hgb

theorem eq41 (W : World) (f : Nat → Int) : (Op.equalIn 10000 41 (.agg #[.int .i64 (f 0), .int .i64 (f 1), .int .i64 (f 2), .int .i64 (f 3), .int .i64 (f 4), .int .i64 (f 5), .int .i64 (f 6), .int .i64 (f 7)]) (.agg #[.int .i64 (f 0), .int .i64 (f 1), .int .i64 (f 2), .int .i64 (f 3), .int .i64 (f 4), .int .i64 (f 5), .int .i64 (f 6), .int .i64 (f 7)])).run Try.prog W = .ok true W := by
  obtain ⟨i3, K0, K1, K2, K3⟩ := info_parts int_info
  have h := run_equal_ints (P := Try.prog) (n := 8) Try.underlying41 K0 (by kernel_rfl) Try.underlying3 (by kernel_rfl) #[.int .i64 (f 0), .int .i64 (f 1), .int .i64 (f 2), .int .i64 (f 3), .int .i64 (f 4), .int .i64 (f 5), .int .i64 (f 6), .int .i64 (f 7)] #[.int .i64 (f 0), .int .i64 (f 1), .int .i64 (f 2), .int .i64 (f 3), .int .i64 (f 4), .int .i64 (f 5), .int .i64 (f 6), .int .i64 (f 7)] f f W (fun s hs => by
    have : s = 0 ∨ s = 1 ∨ s = 2 ∨ s = 3 ∨ s = 4 ∨ s = 5 ∨ s = 6 ∨ s = 7 := by omega
    rcases this with rfl | rfl | rfl | rfl | rfl | rfl | rfl | rfl <;> exact ⟨rfl, rfl⟩)
  rw [h]
  simp

set_option maxRecDepth 100000 in
set_option maxHeartbeats 4000000 in
theorem Forced_any (size prio : Int) (A : Option Addr) (n c N s p : Nat) (f : Nat → Int) (w : World) (hA : Sl w w.heap.size 1 A n (fun i => [.int .i64 (f i)]))
    (hc : n ≤ c) (hcm : c ≤ maxLen) (hN : N = min n 12) (hs : cutI size 1 12 = (s : Int)) (hs1 : 1 ≤ s) (hs2 : s ≤ 12) (hp : cutI prio 0 7 = (p : Int)) (hp8 : p < 8) :
    Calls Try.prog 5 #[.int .i64 size, .slice A n c, .int .i64 prio] w fun e w' => e = .returned (.bool true) ∧ Below w.heap.size w w' := by
  have HN := Lib.hid hN
  have HCut := Lib.hid hs
  have HPr := Lib.hid hp
  have H0 := Lib.hid (boxOf_any size A n c N s f w hA hc hcm hN hs hs1 hs2)
  clear hA hN hs hp
  refine (callsIn_wide (n := 10)).1 ?_
  refine callsIn_of_wp_marks Try.func5 rfl trivial ?_ rfl
  simp only [Try.ntmps5, List.size_toArray, List.length_cons, List.length_nil, Nat.reduceAdd, Nat.reduceSub, Array.replicate_succ, Array.replicate_zero, List.push_toArray, List.append_toArray, List.nil_append, List.cons_append]
  refine wpIn_wide.2 ?_
  go_wp2_with (first
    | (go_at_call 12; refine H0.out.mono ?_; rintro e w1 ⟨vs, C, rfl, hB1, hb1⟩)
    | (go_at_call 7; refine (fact_any _).mono ?_; rintro e w2 ⟨rfl, hb2⟩)
    | (go_at_call 9; refine (Cut_any _ _ _ _ (by omega) (by omega) (by omega)).mono ?_; rintro e w4 ⟨rfl, rfl⟩; rw [HPr.out])
    | (go_at_call 13; refine (All_in _ _).mono ?_; rintro e w3 ⟨rfl, rfl⟩))
  have hg1 := hB1.lt
  have hB2 := hB1.below hb2
  obtain ⟨T, hT⟩ : ∃ T, w2.heap.size = T := ⟨_, rfl⟩
  obtain ⟨g, hg⟩ : ∃ g, w.heap.size = g := ⟨_, rfl⟩
  obtain ⟨Wa, hWa⟩ : ∃ Wa, w2.alloc (.cells #[.int .i64 0, .int .i64 0, .int .i64 0, .int .i64 0, .int .i64 0, .int .i64 0, .int .i64 0, .int .i64 0] 41) = Wa := ⟨_, rfl⟩
  obtain ⟨Wb, hWb⟩ : ∃ Wb, Wa.alloc (.cells #[.int .i64 0, .int .i64 0, .int .i64 0, .int .i64 0, .int .i64 0, .int .i64 0, .int .i64 0, .int .i64 0] 41) = Wb := ⟨_, rfl⟩
  obtain ⟨Wc, hWc⟩ : ∃ Wc, Wb.alloc (.cells #[.int .i64 8] 3) = Wc := ⟨_, rfl⟩
  obtain ⟨W0, hW0⟩ : ∃ W0, Wc.alloc (.cells #[.pointer (some ⟨w.heap.size, 0, none⟩)] 23) = W0 := ⟨_, rfl⟩
  rw [hWa, hWb, hWc, hW0]
  have sa : Wa.heap.size = T + 1 := by rw [← hWa, World.size_alloc, hT]
  have sb : Wb.heap.size = T + 1 + 1 := by rw [← hWb, World.size_alloc, sa]
  have sc : Wc.heap.size = T + 1 + 1 + 1 := by rw [← hWc, World.size_alloc, sb]
  have s0 : W0.heap.size = T + 1 + 1 + 1 + 1 := by rw [← hW0, World.size_alloc, sc]
  have ga := World.grownBy_alloc w2 (.cells #[.int .i64 0, .int .i64 0, .int .i64 0, .int .i64 0, .int .i64 0, .int .i64 0, .int .i64 0, .int .i64 0] 41) none
  have gb := World.grownBy_alloc Wa (.cells #[.int .i64 0, .int .i64 0, .int .i64 0, .int .i64 0, .int .i64 0, .int .i64 0, .int .i64 0, .int .i64 0] 41) none
  have gc := World.grownBy_alloc Wb (.cells #[.int .i64 8] 3) none
  have gd := World.grownBy_alloc Wc (.cells #[.pointer (some ⟨w.heap.size, 0, none⟩)] 23) none
  have k1 := Cnts.new w2 T hT.symm
  have k2 := Cnts.new Wa (T + 1) sa.symm
  have k3 := Boxed.new Wb 3 (.int .i64 8)
  have k4 := Boxed.new Wc 23 (.pointer (some ⟨w.heap.size, 0, none⟩))
  rw [hWa] at ga k1
  rw [hWb] at gb k2
  rw [hWc, sb] at k3
  rw [hWc] at gc
  rw [hW0, sc] at k4
  rw [hW0] at gd
  have K1 : Cnts T W0 (fun _ => 0) := ((k1.kept gb (by simp)).kept gc (by simp)).kept gd (by simp)
  have K2 : Cnts (T + 1) W0 (fun _ => 0) := (k2.kept gc (by simp)).kept gd (by simp)
  have K3 : Boxed W0 (T + 1 + 1) 3 (.int .i64 8) := k3.kept gd (by simp)
  have hBel : Below T w2 W0 := by
    rw [← hW0, ← hWc, ← hWb, ← hWa]
    exact ((((Below.refl T w2).alloc (by omega) _).alloc (by rw [hWa]; omega) _).alloc (by rw [hWa, hWb]; omega) _).alloc (by rw [hWa, hWb, hWc]; omega) _
  have hgT : w.heap.size < T := by rw [← hT]; exact Nat.lt_of_lt_of_le hg1 hb2.size
  have hB3 := hB2.below (hBel.mono (Nat.le_of_eq hT))
  rw [hT]
  rw [hg] at k4 hB3 hgT hB2 hB1 hg1 hb1 ⊢
  have HTS := Lib.hid hT
  have HGS := Lib.hid hg
  have hls : ∀ q, q < 8 → (lsOf (cq f 7) (min N s) q).length ≤ 1000 := fun q _ => by have := lsOf_len (cq f 7) (min N s) q; omega
  have HB0 := Lib.hid hB2
  clear hB1 hB2 hg1 hT hg hWa hWb hWc hW0 sa sb sc ga gb gc gd k1 k2 k3
  refine (wpIn_wide (n := 10)).1 ?_
  refine wpIn_rangeFunc_ownF rfl (by omega) (gf := 16) (lb := #[.pointer (some ⟨T + 1 + 1 + 1, 0, none⟩)]) rfl trivial (enters_of Try.func16 (by kernel_rfl) rfl)
    (All_stops 9 (by omega) (T + 1 + 1 + 1) g (T + 1 + 1 + 1 + 1) s (min N s : Nat) vs (lsOf (cq f 7) (min N s)) C W0 hB3 k4.cell (by omega) hls (by omega)) (fun h k => KpM.trans h k) (fun W l o o' _ h hc _ => KpM.putObj W l o o' h hc) (Below.refl _ _) (fun _ => rfl)
    (fun pre W => (Cnts T W (cnt8 pre) ∧ Cnts (T + 1) W (fun _ => 0) ∧ Boxed W (T + 1 + 1) 3 (.int .i64 (lowM pre))) ∧ Below T w2 W)
    (fun _ _ _ => False)
    (OwnFrom.and (OwnFrom.and (Own.from (cnts_own _ _) _) (OwnFrom.and (Own.from (cnts_own _ (fun _ _ => 0)) _) (Own.from (boxed_own _ _ _) _))) (ownFrom_below (by have := HTS.out; omega) (by omega)))
    (fun _ _ _ _ _ hs _ _ => hs)
    ⟨⟨K1, K2, K3⟩, hBel⟩
    (frF size prio A n c g T p) ?assign ?body ?done ?stop
  case assign =>
    intro l x W K hK
    gi_wp2
    exact hK
  case body =>
    rintro l pre x W ⟨⟨h1, h2, h3⟩, hB⟩ hlt
    have hx8 := x.1.isLt
    obtain ⟨xp, hxp⟩ : ∃ xp, x.1.val = xp := ⟨_, rfl⟩
    have cc := h1.cell x.1.val hx8
    have fc := h1.frozen x.1.val
    have cl := h3.cell
    have fl := h3.frozen
    have ha7 := and7 xp (by omega)
    have hbd := cnt8_bd pre x.1.val
    have hcn : ∀ q, q < 8 → cnt8 (pre ++ [x]) q = if q = xp then cnt8 pre xp + 1 else cnt8 pre q := fun q _ => by rw [cnt8_snoc, hxp]
    have hln := lowM_snoc pre x
    unfold frF
    rw [hxp] at cc fc hx8 hbd hln ⊢
    have HCN := Lib.hid hcn
    have HLN := Lib.hid hln
    have hx0 : (0 : Int) ≤ (xp : Int) := by omega
    have hx7 : (xp : Int) < 8 := by omega
    clear hcn hln hxp
    gi_wp2
    have h1' : Cnts T W (cnt8 pre) := h1
    refine ⟨(KeepsOthers.setCell _ _ _).trans (KeepsOthers.setCell _ _ _), (kpm_set _ _ _ (by omega)).trans (kpm_set _ _ _ (by omega)), ⟨?_, ?_, ?_⟩, (hB.setCell (p := ⟨T, xp, none⟩) (Nat.le_refl _) _).setCell (p := ⟨T + 1 + 1, 0, none⟩) (by show T ≤ T + 1 + 1; omega) _⟩
    · exact (h1.set xp _ hx8 HCN.out).other (by omega) _ _
    · exact (h2.other (by omega) _ _).other (by omega) _ _
    · rw [HLN.out]
      exact (h3.kept (grown_setCell W T xp _) (by intro e; cases e)).set _
  case done =>
    rintro D ys W hD rfl ⟨⟨h1, h2, h3⟩, hB⟩ hK
    have hq : ∀ i, cq f 7 i < 8 := fun i => by have := cutI_bd (n := f i) (lo := 0) (hi := 7) (by omega); unfold cq; omega
    have hBW := HB0.out.below (hB.mono (Nat.le_of_eq HTS.out))
    have hown8 : ∀ q, q < 8 → ∀ k, (vs q).ownBlock = some k → k < T := fun q hq k e => by have := ((HB0.out.own q hq).lt k e).2; have := HTS.out; omega
    have hlen12 : ∀ q, q < 8 → (lsOf (cq f 7) (min N s) q).length ≤ 12 := fun q _ => by have := lsOf_len (cq f 7) (min N s) q; omega
    obtain ⟨m, hm⟩ : ∃ m, min N s = m := ⟨_, rfl⟩
    obtain ⟨l0, hl0⟩ : ∃ l0, lsOf (cq f 7) (min N s) = l0 := ⟨_, rfl⟩
    have hms : m ≤ s := by omega
    have hm0 : 0 < m ∨ m < s := by omega
    obtain ⟨L, hL1, hL2, hL3, hL4⟩ := lowM_tell (lsOf (cq f 7) (min N s))
    rw [hL1] at h3
    rw [hl0] at h1 hL3 hL4 hlen12 hBW
    rw [hm] at hBW
    have hbg : Below g w W := (hb1.trans (hb2.mono (by have := hb1.size; have := HGS.out; omega))).trans (hB.mono (by omega))
    have HL12 := Lib.hid hlen12
    have HF := Lib.hid (Force_all hBW hp8 hms hs2 hlen12 hm0 hL3 hL4 99)
    have HBW := Lib.hid hBW
    have HK := Lib.hid hK
    have HH := Lib.hid (And.intro h1 (And.intro h2 h3))
    have hDT : T + 4 ≤ D := by omega
    have hDW := (Array.getElem?_eq_some_iff.1 hK).1
    clear hl0 hm hL1 hL3 hL4 hlen12 hBW hq hls hb1 hb2 hBel hB3 hB h1 h2 h3 hK K1 K2 K3 k4 s0 hD
    unfold maxLen at hcm
    go_wp2_with (first
      | (go_at_call 10; refine (Count_any HBW.out).mono ?_; rintro e w5 ⟨rfl, rfl⟩)
      | (go_at_call 9; refine (Cut_any _ _ _ _ (by omega) (by omega) (by omega)).mono ?_; rintro e w4 ⟨rfl, rfl⟩; rw [HCut.out])
      | (go_at_call 14; refine HF.out.mono ?_; rintro e w6 ⟨y, is, er, c2, vs2, ls2, C2, rfl, hB6, hb6, ho6, hl6, hw6⟩)
      | (go_at_call 13; refine (All_in _ _).mono ?_; rintro e w3 ⟨rfl, rfl⟩))
    obtain ⟨W7, hW7⟩ : ∃ W7, w6.alloc (.cells #[.pointer (some ⟨g, 0, none⟩)] 23) = W7 := ⟨_, rfl⟩
    have s7 : W7.heap.size = w6.heap.size + 1 := by rw [← hW7, World.size_alloc]
    have g7 := World.grownBy_alloc w6 (.cells #[.pointer (some ⟨g, 0, none⟩)] 23) none
    have b7 := Boxed.new w6 23 (.pointer (some ⟨g, 0, none⟩))
    have hb7 : Below w6.heap.size w6 W7 := by rw [← hW7]; exact (Below.refl _ _).alloc (Nat.le_refl _) _
    rw [hW7] at g7 b7 ⊢
    obtain ⟨q6, hq6⟩ : ∃ q6, w6.heap.size = q6 := ⟨_, rfl⟩
    obtain ⟨fb, hfb⟩ : ∃ fb, ((m : Int) == (s : Int)) = fb := ⟨_, rfl⟩
    rw [hq6] at b7 s7
    rw [hq6, hfb]
    have hsW6 : W.heap.size ≤ w6.heap.size := hb6.size
    have hlt3 := HH.out.2.2.lt
    have keep : ∀ k, T ≤ k → k < W.heap.size → W7.heap[k]? = W.heap[k]? := fun k hk hkW => (g7.block k (by omega) (by simp)).trans (ho6 k hkW (by omega) (fun q hq e => by have := hown8 q hq k e; omega))
    have B7 := hB6.below hb7
    have J1 := HH.out.1.same (keep T (Nat.le_refl _) (by omega))
    have J2 := HH.out.2.1.same (keep (T + 1) (by omega) (by omega))
    have J3 : Boxed W7 (T + 1 + 1) 3 (.int .i64 (L : Int)) := (keep (T + 1 + 1) (by omega) hlt3).trans HH.out.2.2
    have J4 : W7.heap[D]? = some (.deferred (some [])) := (keep D (by omega) hDW).trans HK.out
    have hbg7 : Below g w W7 := (hbg.trans hb6).trans (hb7.mono (by omega))
    have HFB := Lib.hid hfb
    have HW := Lib.hid hw6
    have H7 := Lib.hid (And.intro J1 (And.intro J3 (And.intro J4 (And.intro hbg7 B7))))
    obtain ⟨C41, hC41, hT41⟩ := J2
    have J2 : Cnts (T + 1) W7 (fun _ => 0) := ⟨C41, hC41, hT41⟩
    clear hT41
    clear hW7 g7 hb7 hfb hB6 hb6 ho6 hw6 keep J1 J3 J4 hbg hbg7 HF HBW HK HH
    refine (wpIn_wide (n := 10)).1 ?_
    refine wpIn_rangeFunc_ownF rfl (by omega) (gf := 16) (lb := #[.pointer (some ⟨q6, 0, none⟩)]) rfl trivial (enters_of Try.func16 (by kernel_rfl) rfl)
      (All_stops 9 (by omega) q6 g W7.heap.size s c2 vs2 ls2 C2 W7 B7 b7.cell (Nat.le_refl _) hl6 (by omega)) (fun h k => KpM.trans h k) (fun W l o o' _ h hc _ => KpM.putObj W l o o' h hc) (Below.refl _ _) (fun _ => rfl)
      (fun pre W' => Cnts (T + 1) W' (cnt8 pre) ∧ W7.grownBy W' (some (T + 1)))
      (fun _ _ _ => False)
      (OwnFrom.and (Own.from (cnts_own _ _) _) (ownFrom_grown _ _))
      (fun _ _ _ _ _ hs _ _ => hs)
      ⟨J2, World.grownBy.refl _ _⟩
      (frG size prio y er fb is A n c g T p m s q6) ?assign2 ?body2 ?done2 ?stop2
    case assign2 =>
      intro l x W K hK
      gi_wp2
      exact hK
    case body2 =>
      rintro l pre x W' ⟨h1, hgr⟩ hlt
      have hx8 := x.1.isLt
      obtain ⟨xp, hxp⟩ : ∃ xp, x.1.val = xp := ⟨_, rfl⟩
      have cc := h1.cell x.1.val hx8
      have fc := h1.frozen x.1.val
      have ha7 := and7 xp (by omega)
      have hbd := cnt8_bd pre x.1.val
      have hcn : ∀ q, q < 8 → cnt8 (pre ++ [x]) q = if q = xp then cnt8 pre xp + 1 else cnt8 pre q := fun q _ => by rw [cnt8_snoc, hxp]
      unfold frG
      rw [hxp] at cc fc hx8 hbd ⊢
      have HCN := Lib.hid hcn
      have hx0 : (0 : Int) ≤ (xp : Int) := by omega
      have hx7 : (xp : Int) < 8 := by omega
      clear hcn hxp
      gi_wp2
      exact ⟨KeepsOthers.setCell _ _ _, kpm_set _ _ _ (by omega), h1.set xp _ hx8 HCN.out, grown_trans hgr (grown_setCell W' (T + 1) xp _)⟩
    case done2 =>
      rintro D2 ys W' hD2 rfl ⟨h1, hgr⟩ hK2
      have P1 : Cnts T W' (cnt8 (tellM l0 8)) := H7.out.1.kept hgr (by simp)
      have P3 : Boxed W' (T + 1 + 1) 3 (.int .i64 (L : Int)) := H7.out.2.1.kept hgr (by simp)
      have P4 : W'.heap[D]? = some (.deferred (some [])) := (hgr.block D (Array.getElem?_eq_some_iff.1 H7.out.2.2.1).1 (by simp; omega)).trans H7.out.2.2.1
      have P5 : BoxAt g (s : Int) (c2 : Int) vs2 ls2 C2 W' := B7.keptB hgr hC41
      have P6 : Below g w W' := H7.out.2.2.2.1.grown hgr (by omega) (fun k e => by cases e; omega)
      obtain ⟨f0, hf0⟩ : ∃ f0, cnt8 (tellM l0 8) = f0 := ⟨_, rfl⟩
      obtain ⟨f2, hf2⟩ : ∃ f2, cnt8 (tellM ls2 8) = f2 := ⟨_, rfl⟩
      have hf0b : ∀ q, q < 8 → 0 ≤ f0 q ∧ f0 q ≤ 12 := fun q hq => by rw [← hf0, cnt8_tell hq]; have := HL12.out q hq; omega
      have hDD : D < D2 := by have := (Array.getElem?_eq_some_iff.1 H7.out.2.2.1).1; omega
      have hww := HW.out
      unfold ForceWay at hww
      rw [hf0, hf2] at hww
      rw [hf0] at P1
      rw [hf2] at h1
      have HFF := Lib.hid hf0
      have HF2 := Lib.hid hf2
      have hwa := hf0b p hp8
      have cp := P1.cell p hp8
      have fp := P1.frozen p
      have cl := P3.cell
      have P8 := Lib.hid P3
      have HK := Lib.hid (And.intro P4 hK2)
      have HBel := Lib.hid P6
      have H5 := Lib.hid P5
      obtain ⟨CT, hCT, hTT⟩ := P1
      have P1 : Cnts T W' f0 := ⟨CT, hCT, hTT⟩
      have HC41 := Lib.hid hCT
      clear hTT hCT
      have hpp0 : (0 : Int) ≤ (p : Int) := by omega
      have hTW := P1.lt
      have hpp8 : (p : Int) < 8 := by omega
      clear HW H7 P4 hK2 P6 P5 P3 B7 hC41 b7 J2 hl6 hf0 hf2 hgr
      rcases hww with ⟨hx, rfl, rfl, rfl, hcq⟩ | ⟨hx, hpl, rfl, rfl, rfl, rfl⟩ | ⟨hx, hpl, rfl, rfl, rfl, hcq⟩
      · obtain rfl : fb = false := by rw [← HFB.out]; simp; omega
        have Q1 : Cnts T (W'.setCell ⟨T, p, none⟩ (.int .i64 (f0 p + 1))) f2 := P1.set p _ hp8 hcq
        have Q2 : Cnts (T + 1) (W'.setCell ⟨T, p, none⟩ (.int .i64 (f0 p + 1))) f2 := h1.other (by omega) _ _
        have HQ := Lib.hid (And.intro Q1 Q2)
        have hcs : decide (m + 1 ≤ s) = true := by simp; omega
        have hcs' : decide ((m : Int) + 1 ≤ (s : Int)) = true := by simp; omega
        clear Q1 Q2 hcq
        go_upto_region 21 with (fail)
        obtain ⟨W8, hW8⟩ : ∃ W8, W'.setCell ⟨T, p, none⟩ (.int .i64 (f0 p + 1)) = W8 := ⟨_, rfl⟩
        rw [hW8] at HQ ⊢
        have x0 := HQ.out.1.cell 0 (by omega)
        have y0 := HQ.out.2.cell 0 (by omega)
        have x1 := HQ.out.1.cell 1 (by omega)
        have y1 := HQ.out.2.cell 1 (by omega)
        have x2 := HQ.out.1.cell 2 (by omega)
        have y2 := HQ.out.2.cell 2 (by omega)
        have x3 := HQ.out.1.cell 3 (by omega)
        have y3 := HQ.out.2.cell 3 (by omega)
        have x4 := HQ.out.1.cell 4 (by omega)
        have y4 := HQ.out.2.cell 4 (by omega)
        have x5 := HQ.out.1.cell 5 (by omega)
        have y5 := HQ.out.2.cell 5 (by omega)
        have x6 := HQ.out.1.cell 6 (by omega)
        have y6 := HQ.out.2.cell 6 (by omega)
        have x7 := HQ.out.1.cell 7 (by omega)
        have y7 := HQ.out.2.cell 7 (by omega)
        have g8 : W'.grownBy (W'.setCell ⟨T, p, none⟩ (.int .i64 (f0 p + 1))) (some T) := grown_setCell _ _ _ _
        rw [hW8] at g8
        have B8 : Below g W' W8 := (Below.refl g W').grown g8 (by omega) (fun k e => by cases e; omega)
        have H8 := Lib.hid (H5.out.keptB g8 HC41.out)
        have HKK : Hid (W8.heap[D]? = some (.deferred (some [])) ∧ W8.heap[D2]? = some (.deferred (some []))) := Lib.hid ⟨(g8.block D (Array.getElem?_eq_some_iff.1 HK.out.1).1 (by simp; omega)).trans HK.out.1, (g8.block D2 (Array.getElem?_eq_some_iff.1 HK.out.2).1 (by simp; omega)).trans HK.out.2⟩
        clear hW8 g8
        have hEq := fun W => eq41 W f2
        go_wp2_with (first
          | (go_at_call 10; refine (Count_any H8.out).mono ?_; rintro e w10 ⟨rfl, rfl⟩)
          | (go_at_call 9; refine (Cut_any _ _ _ _ (by omega) (by omega) (by omega)).mono ?_; rintro e w11 ⟨rfl, rfl⟩; rw [HCut.out]))
        refine ⟨by simp, .inl ⟨_, _, rfl, run_takeDeferred HKK.out.2, ⟨by simp, .inl ⟨_, _, rfl, run_takeDeferred ((World.putObj_heap_other (by omega)).trans HKK.out.1), ?_⟩⟩⟩⟩
        refine ⟨_, results_tmp rfl _ _ _, rfl, ?_⟩
        rw [HGS.out]
        have hg0 := belowK_b (n₀ := g) (w := w) (Nat.le_of_eq HGS.out.symm) W8 D2 _ (.deferred none) (by have := HGS.out; omega) HKK.out.2 rfl rfl
        have hg1 := belowK_b (n₀ := g) (w := w) (Nat.le_of_eq HGS.out.symm) (W8.putObj D2 (.deferred none)) D _ (.deferred none) (by have := HGS.out; omega) ((World.putObj_heap_other (by omega)).trans HKK.out.1) rfl rfl
        exact ((HBel.out.trans B8).trans hg0).trans hg1
      · obtain rfl : fb = true := by rw [← HFB.out]; simp; omega
        obtain rfl : f0 = f2 := HFF.out.symm.trans HF2.out
        have d1 : decide (p ≤ L) = true := by simp; exact hpl
        have x0 := P1.cell 0 (by omega)
        have y0 := h1.cell 0 (by omega)
        have x1 := P1.cell 1 (by omega)
        have y1 := h1.cell 1 (by omega)
        have x2 := P1.cell 2 (by omega)
        have y2 := h1.cell 2 (by omega)
        have x3 := P1.cell 3 (by omega)
        have y3 := h1.cell 3 (by omega)
        have x4 := P1.cell 4 (by omega)
        have y4 := h1.cell 4 (by omega)
        have x5 := P1.cell 5 (by omega)
        have y5 := h1.cell 5 (by omega)
        have x6 := P1.cell 6 (by omega)
        have y6 := h1.cell 6 (by omega)
        have x7 := P1.cell 7 (by omega)
        have y7 := h1.cell 7 (by omega)
        have hEq := fun W => eq41 W f0
        have HKK := HK
        go_wp2
        refine ⟨by simp, .inl ⟨_, _, rfl, run_takeDeferred HKK.out.2, ⟨by simp, .inl ⟨_, _, rfl, run_takeDeferred ((World.putObj_heap_other (by omega)).trans HKK.out.1), ?_⟩⟩⟩⟩
        refine ⟨_, results_tmp rfl _ _ _, rfl, ?_⟩
        rw [HGS.out]
        have hg0 := belowK_b (n₀ := g) (w := w) (Nat.le_of_eq HGS.out.symm) W' D2 _ (.deferred none) (by have := HGS.out; omega) HKK.out.2 rfl rfl
        have hg1 := belowK_b (n₀ := g) (w := w) (Nat.le_of_eq HGS.out.symm) (W'.putObj D2 (.deferred none)) D _ (.deferred none) (by have := HGS.out; omega) ((World.putObj_heap_other (by omega)).trans HKK.out.1) rfl rfl
        exact (HBel.out.trans hg0).trans hg1
      · obtain rfl : fb = true := by rw [← HFB.out]; simp; omega
        have d1 : decide (p ≤ L) = false := by simp; omega
        have hLp : ¬ L = p := by omega
        have hpL : ¬ p = L := by omega
        have cL := P1.cell L (by omega)
        have fL := P1.frozen L
        have hwl := hf0b L (by omega)
        have ha7 := and7 L (by omega)
        have hL0 : (0 : Int) ≤ (L : Int) := by omega
        have hL8 : (L : Int) < 8 := by omega
        have Q1 : Cnts T ((W'.setCell ⟨T, p, none⟩ (.int .i64 (f0 p + 1))).setCell ⟨T, L, none⟩ (.int .i64 (f0 L - 1))) f2 := (P1.set (g := fun q => if q = p then f0 p + 1 else f0 q) p _ hp8 (fun _ _ => rfl)).set L _ (by omega) (fun q hq => by rw [hcq q hq])
        have Q2 : Cnts (T + 1) ((W'.setCell ⟨T, p, none⟩ (.int .i64 (f0 p + 1))).setCell ⟨T, L, none⟩ (.int .i64 (f0 L - 1))) f2 := (h1.other (by omega) _ _).other (by omega) _ _
        have HQ := Lib.hid (And.intro Q1 Q2)
        have hcs : decide (c2 ≤ s) = true := by simp; omega
        clear Q1 Q2 hcq
        go_upto_region 21 with (fail)
        obtain ⟨W8, hW8⟩ : ∃ W8, (W'.setCell ⟨T, p, none⟩ (.int .i64 (f0 p + 1))).setCell ⟨T, L, none⟩ (.int .i64 (f0 L - 1)) = W8 := ⟨_, rfl⟩
        rw [hW8] at HQ ⊢
        have x0 := HQ.out.1.cell 0 (by omega)
        have y0 := HQ.out.2.cell 0 (by omega)
        have x1 := HQ.out.1.cell 1 (by omega)
        have y1 := HQ.out.2.cell 1 (by omega)
        have x2 := HQ.out.1.cell 2 (by omega)
        have y2 := HQ.out.2.cell 2 (by omega)
        have x3 := HQ.out.1.cell 3 (by omega)
        have y3 := HQ.out.2.cell 3 (by omega)
        have x4 := HQ.out.1.cell 4 (by omega)
        have y4 := HQ.out.2.cell 4 (by omega)
        have x5 := HQ.out.1.cell 5 (by omega)
        have y5 := HQ.out.2.cell 5 (by omega)
        have x6 := HQ.out.1.cell 6 (by omega)
        have y6 := HQ.out.2.cell 6 (by omega)
        have x7 := HQ.out.1.cell 7 (by omega)
        have y7 := HQ.out.2.cell 7 (by omega)
        have g8 : W'.grownBy ((W'.setCell ⟨T, p, none⟩ (.int .i64 (f0 p + 1))).setCell ⟨T, L, none⟩ (.int .i64 (f0 L - 1))) (some T) := grown_trans (grown_setCell _ _ _ _) (grown_setCell _ _ _ _)
        rw [hW8] at g8
        have B8 : Below g W' W8 := (Below.refl g W').grown g8 (by omega) (fun k e => by cases e; omega)
        have H8 := Lib.hid (H5.out.keptB g8 HC41.out)
        have HKK : Hid (W8.heap[D]? = some (.deferred (some [])) ∧ W8.heap[D2]? = some (.deferred (some []))) := Lib.hid ⟨(g8.block D (Array.getElem?_eq_some_iff.1 HK.out.1).1 (by simp; omega)).trans HK.out.1, (g8.block D2 (Array.getElem?_eq_some_iff.1 HK.out.2).1 (by simp; omega)).trans HK.out.2⟩
        clear hW8 g8
        have hEq := fun W => eq41 W f2
        go_wp2_with (first
          | (go_at_call 10; refine (Count_any H8.out).mono ?_; rintro e w10 ⟨rfl, rfl⟩)
          | (go_at_call 9; refine (Cut_any _ _ _ _ (by omega) (by omega) (by omega)).mono ?_; rintro e w11 ⟨rfl, rfl⟩; rw [HCut.out]))
        refine ⟨by simp, .inl ⟨_, _, rfl, run_takeDeferred HKK.out.2, ⟨by simp, .inl ⟨_, _, rfl, run_takeDeferred ((World.putObj_heap_other (by omega)).trans HKK.out.1), ?_⟩⟩⟩⟩
        refine ⟨_, results_tmp rfl _ _ _, rfl, ?_⟩
        rw [HGS.out]
        have hg0 := belowK_b (n₀ := g) (w := w) (Nat.le_of_eq HGS.out.symm) W8 D2 _ (.deferred none) (by have := HGS.out; omega) HKK.out.2 rfl rfl
        have hg1 := belowK_b (n₀ := g) (w := w) (Nat.le_of_eq HGS.out.symm) (W8.putObj D2 (.deferred none)) D _ (.deferred none) (by have := HGS.out; omega) ((World.putObj_heap_other (by omega)).trans HKK.out.1) rfl rfl
        exact ((HBel.out.trans B8).trans hg0).trans hg1
    case stop2 =>
      rintro D c pre W _ _ h _
      exact h.elim
  case stop =>
    rintro D c pre W _ _ h _
    exact h.elim
end Go.Proofs.Ytblcgmihdgnhbaa
