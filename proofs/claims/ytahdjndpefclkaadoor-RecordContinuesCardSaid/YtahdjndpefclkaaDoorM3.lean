/- The walk of RecordContinues. -/
import Derived.Test.YtahdjndpefclkaaDoorP3
namespace Go.Proofs.YtahdjndpefclkaaDoor
open Go.RowKit
open Go.Lib hiding intOf

/-- A log whose two blocks lie as they lay. -/
theorem LogA.kept2 {g c : Nat} {A : Option Addr} {l : List Ent} {W W' : World} (h : LogA g A c l W) (h1 : W'.heap[g]? = W.heap[g]?) (h2 : ∀ a, A = some a → W'.heap[a.block]? = W.heap[a.block]?) : LogA g A c l W' := by
  refine ⟨h1.trans h.1, h.2.1, ?_⟩
  rcases h.2.2 with hn | ⟨b, cap, cur, hv, hb', hgg, rest⟩
  · exact .inl hn
  · refine .inr ⟨b, cap, cur, hv, hb', ?_, rest⟩
    have : A = some ⟨b, 0, none⟩ := by injection hv
    rw [h2 _ this]
    exact hgg

theorem LogA.blk {g c : Nat} {A : Option Addr} {l : List Ent} {W : World} (h : LogA g A c l W) (a : Addr) (ha : A = some a) : g < a.block ∧ a.block < W.heap.size := by
  subst ha
  have := h.2.lt a.block rfl
  omega

def addM (l : List Ent) (t : Int) (k x : ByteArray) : List Ent := if addC l t k x = 0 then l ++ [newE l t k x] else l
def addN (l : List Ent) (t : Int) (k x : ByteArray) : Int := if addC l t k x = 0 then (l.length : Int) + 1 else 0

def AddQ (g : Nat) (A : Option Addr) (M : List Ent) (N C : Int) (w : World) (y : Ending) (w' : World) : Prop :=
  ∃ A' c', y = .returned (.tuple #[.int .i64 N, .int .i64 C]) ∧ LogA g A' c' M w' ∧ Below g w w' ∧ OffLog g A w w' ∧ (∀ a, A' = some a → (∃ a0, A = some a0 ∧ a0.block = a.block) ∨ w.heap.size ≤ a.block)

theorem Add_any {g c : Nat} {A : Option Addr} {l : List Ent} {w : World} (h : LogA g A c l w) (t : Int) (k x : ByteArray) (hw : Wf (newE l t k x)) (hl : l.length ≤ 400) :
    Calls Tryd.prog 17 #[.pointer (some ⟨g, 0, none⟩), .int .i64 t, .string k, .string x] w (AddQ g A (addM l t k x) (addN l t k x) (addC l t k x) w) := by
  unfold addM addN
  by_cases hc : addC l t k x = 0
  · rw [if_pos hc, if_pos hc, hc]
    exact Add_ok h t k x hw hc hl
  · rw [if_neg hc, if_neg hc]
    exact (Add_no h t k x hw hc hl).mono fun y w' hy => ⟨A, c, hy.1, h.below hy.2, hy.2.mono (Nat.le_of_lt h.lt), fun k hk _ _ => hy.2.block k hk, fun a ha => .inl ⟨a, ha, rfl⟩⟩

theorem addM_ok {l : List Ent} (t : Int) (k x : ByteArray) (hl : LogOk l) : LogOk (addM l t k x) := by
  unfold addM
  by_cases hc : addC l t k x = 0
  · rw [if_pos hc]; exact addC_ok hc hl
  · rw [if_neg hc]; exact hl

theorem addM_len (l : List Ent) (t : Int) (k x : ByteArray) : (addM l t k x).length ≤ l.length + 1 := by
  unfold addM
  split
  · simp
  · omega

theorem LogOf_at (A : Option Addr) (n c : Nat) (f : Nat → Ent) (w : World) (x : Array Value) (hA : Sl w w.heap.size 4 A n (fun i => rowE (f i))) (hf : ∀ i, i < n → Wf (f i)) (hc : n ≤ c) (hcm : c ≤ maxLen) (hnil : A = none → n = 0 ∧ c = 0) :
    Calls Tryd.prog 14 #[.slice A n c] (w.alloc (.cells x 23)) fun y w' => ∃ L, y = .returned (.pointer (some ⟨w.heap.size + 1, 0, none⟩)) ∧ LogAt (w.heap.size + 1) L w' ∧ LogOk L ∧ L.length ≤ 12 ∧ Below (w.heap.size + 1) (w.alloc (.cells x 23)) w' := by
  have hB0 : Below w.heap.size w (w.alloc (.cells x 23)) := (Below.refl _ w).alloc (Nat.le_refl _) _
  have hts : (w.alloc (.cells x 23)).heap.size = w.heap.size + 1 := World.size_alloc _ _
  refine (logOf_any A n c (min n 12) f (w.alloc (.cells x 23)) ((hA.below hB0).more (by rw [hts]; omega)) hf hc hcm hnil rfl).mono ?_
  rintro y w' ⟨L, h1, h2, h3, h4, h5⟩
  rw [hts] at h1 h2 h5
  exact ⟨L, h1, h2, h3, h4, h5⟩

set_option maxRecDepth 100000 in
set_option maxHeartbeats 4000000 in
theorem Continues_walk (A : Option Addr) (n c : Nat) (f : Nat → Ent) (x : Ent) (w : World) (hA : Sl w w.heap.size 4 A n (fun i => rowE (f i))) (hf : ∀ i, i < n → Wf (f i)) (hc : n ≤ c) (hcm : c ≤ maxLen) (hnil : A = none → n = 0 ∧ c = 0) (hx : Wf x) (he : Env w) :
    Calls Tryd.prog 5 #[.slice A n c, valE x] w fun y w' => y = .returned (.bool true) ∧ Below w.heap.size w w' := by
  obtain ⟨xn, xt, xk, xx⟩ := x
  have hLo := LogOf_at A n c f w #[.int .i64 xn, .int .i64 xt, .string xk, .string xx] hA hf hc hcm hnil
  have HLo := Lib.hid hLo
  have HE := Lib.hid he
  have HFa := Lib.hid (fun W (hW : Env W) => fact_any W hW)
  have HX := Lib.hid hx
  have hnew := heap_alloc_new w (.cells #[.int .i64 xn, .int .i64 xt, .string xk, .string xx] 23)
  have HNew := Lib.hid hnew
  have hB0 : Below w.heap.size w (w.alloc (.cells #[.int .i64 xn, .int .i64 xt, .string xk, .string xx] 23)) := (Below.refl _ w).alloc (Nat.le_refl _) _
  have HB0 := Lib.hid hB0
  have hs0 : w.heap.size + 1 ≤ (w.alloc (.cells #[.int .i64 xn, .int .i64 xt, .string xk, .string xx] 23)).heap.size := by rw [World.size_alloc]; omega
  have HS0 := Lib.hid hs0
  unfold valE
  clear hA hf hnil he hx hnew hB0 hs0 hLo
  go_enter Tryd.func5, Tryd.ntmps5
  go_wp2_with fail
  refine HLo.out.mono ?_
  rintro e w1 ⟨L, rfl, ⟨A1, c1, hL1⟩, hok, hl12, hb1⟩
  have B1 : Below w.heap.size w w1 := HB0.out.trans (hb1.mono (by omega))
  have hn1 := (hb1.block w.heap.size (by omega)).trans HNew.out
  have HL1 := Lib.hid hL1
  have HN1 := Lib.hid hn1
  have HOk := Lib.hid hok
  clear hL1 hn1 hok hb1
  go_wp2_with fail
  refine (HFa.out _ (HE.out.below B1)).mono ?_
  rintro e w2 ⟨rfl, hb2⟩
  have B2 := bstep B1 hb2
  have HL2 := Lib.hid (HL1.out.below hb2)
  have HN2 := Lib.hid ((hb2.block _ (Array.getElem?_eq_some_iff.1 HN1.out).1).trans HN1.out)
  have HBy := Lib.hid (Bytes_any HL2.out (fun i e h => (HOk.out.1 i e h).2) (by omega) (HE.out.below B2))
  clear hb2
  go_wp2_with fail
  refine HBy.out.mono ?_
  rintro e w3 ⟨rfl, hb3⟩
  have B3 := bstep B2 hb3
  have HL3 := Lib.hid (HL2.out.below hb3)
  have HN3 := Lib.hid ((hb3.block _ (Array.getElem?_eq_some_iff.1 HN2.out).1).trans HN2.out)
  have HRe := Lib.hid (Recover_any (mk (encs L)) w3 (by rw [size_mk]; have := encs_len (l := L) (fun i e h => (HOk.out.1 i e h).2); omega) (HE.out.below B3))
  clear hb3
  go_wp2_with fail
  refine HRe.out.mono ?_
  rintro e w4 ⟨l, rest, rfl, ⟨A2, c2, hL4⟩, hok4, hsr, hst, hb4⟩
  rw [bl_mk] at hsr
  obtain rfl : l = L := recov_eq hok4 HOk.out hst hsr
  have B4 := bstep B3 hb4
  have HK4 := Lib.hid hL4
  have HL4 := Lib.hid (HL3.out.below hb4)
  have hn4 := ((hb4.block _ (Array.getElem?_eq_some_iff.1 HN3.out).1).trans HN3.out)
  have HN4 := Lib.hid hn4
  have a0 := cell_of_row _ _ 0 _ _ _ hn4
  have a1 := cell_of_row _ _ 1 _ _ _ hn4
  have a2 := cell_of_row _ _ 2 _ _ _ hn4
  have a3 := cell_of_row _ _ 3 _ _ _ hn4
  have hw4 : w.heap.size < w4.heap.size := (Array.getElem?_eq_some_iff.1 hn4).1
  have hgg : w.heap.size + 1 < w3.heap.size := HL3.out.lt
  have hAb : ∀ a, A1 = some a → w.heap.size + 1 < a.block ∧ a.block < w3.heap.size := fun a ha => HL3.out.blk a ha
  have hBb : ∀ a, A2 = some a → w3.heap.size < a.block ∧ a.block < w4.heap.size := fun a ha => HK4.out.blk a ha
  have HAb := Lib.hid hAb
  have HBb := Lib.hid hBb
  have hwn : Wf (newE l xt xk xx) := ⟨⟨by show (-9223372036854775808 : Int) ≤ (l.length : Int) + 1; omega, by show (l.length : Int) + 1 ≤ 9223372036854775807; omega⟩, HX.out.2.1, HX.out.2.2.1, HX.out.2.2.2⟩
  obtain ⟨M, hM⟩ : ∃ M, addM l xt xk xx = M := ⟨_, rfl⟩
  obtain ⟨N, hN⟩ : ∃ N, addN l xt xk xx = N := ⟨_, rfl⟩
  obtain ⟨C, hC⟩ : ∃ C, addC l xt xk xx = C := ⟨_, rfl⟩
  have hMo : LogOk M := by rw [← hM]; exact addM_ok _ _ _ HOk.out
  have hMl : M.length ≤ 13 := by rw [← hM]; have := addM_len l xt xk xx; omega
  have HMo := Lib.hid hMo
  have HAd := Lib.hid (fun (g c : Nat) (A : Option Addr) (W : World) (h : LogA g A c l W) => Add_any h xt xk xx hwn (by omega))
  rw [hM, hN, hC] at HAd
  clear hM hN hC hMo hwn hn4 hL4 hb4 hst hsr hok4 hAb hBb
  go_wp2_with fail
  refine (HAd.out _ _ _ _ HL4.out).mono ?_
  rintro e w5 ⟨A3, c3, rfl, hL5, hb5, hoff, hA3⟩
  have HL5 := Lib.hid hL5
  have B5 : Below w.heap.size w w5 := B4.trans (hb5.mono (by omega))
  have HK5 := Lib.hid (HK4.out.kept2 (hoff _ HK4.out.lt (by omega) (fun a ha => by have := HAb.out a ha; omega)) (fun a ha => hoff _ (HBb.out a ha).2 (by have := HBb.out a ha; omega) (fun a' ha' => by have := HAb.out a' ha'; have := HBb.out a ha; omega)))
  have hn5 := (hb5.block w.heap.size (by omega)).trans HN4.out
  have a0 := cell_of_row _ _ 0 _ _ _ hn5
  have a1 := cell_of_row _ _ 1 _ _ _ hn5
  have a2 := cell_of_row _ _ 2 _ _ _ hn5
  have a3 := cell_of_row _ _ 3 _ _ _ hn5
  have h45 : w4.heap.size ≤ w5.heap.size := hb5.size
  have hAc : ∀ a, A3 = some a → (w.heap.size + 1 < a.block ∧ a.block < w3.heap.size) ∨ w4.heap.size ≤ a.block := fun a ha => (hA3 a ha).imp (fun ⟨a0, h0, h1⟩ => by rw [← h1]; exact HAb.out a0 h0) id
  have HAc := Lib.hid hAc
  have h34 : w3.heap.size < w4.heap.size := HK4.out.lt
  clear hAc hA3 hoff hn5 hL5 hb5
  go_wp2_with fail
  refine (HAd.out _ _ _ _ HK5.out).mono ?_
  rintro e w6 ⟨A4, c4, rfl, hK6, hb6, hoff, hA4⟩
  have HK6 := Lib.hid hK6
  have B6 : Below w.heap.size w w6 := B5.trans (hb6.mono (by omega))
  have HL6 := Lib.hid (HL5.out.kept2 (hoff _ HL5.out.lt (by omega) (fun a ha => by have := HBb.out a ha; omega)) (fun a ha => hoff _ (HL5.out.blk a ha).2 (by have := HAc.out a ha; omega) (fun a' ha' => by have := HBb.out a' ha'; have := HAc.out a ha; omega)))
  have HB1 := Lib.hid (Bytes_any HL6.out (fun i e h => (HMo.out.1 i e h).2) (by omega) (HE.out.below B6))
  clear hA4 hoff hK6 hb6
  go_wp2_with fail
  refine HB1.out.mono ?_
  rintro e w7 ⟨rfl, hb7⟩
  have B7 := bstep B6 hb7
  have HB2 := Lib.hid (Bytes_any (HK6.out.below hb7) (fun i e h => (HMo.out.1 i e h).2) (by omega) (HE.out.below B7))
  go_wp2_with fail
  refine HB2.out.mono ?_
  rintro e w8 ⟨rfl, hb8⟩
  have B8 := bstep B7 hb8
  go_wp2
  go_ret
  exact ⟨rfl, B8⟩
end Go.Proofs.YtahdjndpefclkaaDoor
