/- Package strip: Itoa, Text. -/
import Derived.Test.YtadhkncilokdjaaDoorA7
import Derived.Test.YtadhkncilokdjaaDoorSh
import Derived.Test.YtadhkncilokdjaaDoorRP1
import Derived.Lib.AppendIntMem
import Derived.Lib.SmallJoins
import Derived.Lib.QuietBelow
import Derived.Handy
namespace Go.Proofs.YtadhkncilokdjaaDoor
open Go.RowKit
open Go.Lib hiding intOf

abbrev bl (s : ByteArray) : L8 := s.data.toList
theorem bl_inj {a b : ByteArray} (h : bl a = bl b) : a = b := by
  cases a; cases b
  exact congrArg ByteArray.mk (Array.toList_inj.1 h)
def mk (l : L8) : ByteArray := ⟨l.toArray⟩
theorem bl_mk (l : L8) : bl (mk l) = l := by simp [bl, mk]
theorem mk_bl (s : ByteArray) : mk (bl s) = s := bl_inj (bl_mk _)
theorem size_bl (s : ByteArray) : (bl s).length = s.size := by simp [bl]
theorem size_mk (l : L8) : (mk l).size = l.length := by rw [← size_bl, bl_mk]
theorem bl_append (x y : ByteArray) : bl (x ++ y) = bl x ++ bl y := by simp [bl]
theorem bl1 (c : UInt8) : bl (⟨#[c]⟩ : ByteArray) = [c] := rfl

/-- What the library's functions read of the memory: a table. -/
def Env (w : World) : Prop := TabIs Tryd.prog w "internal/strconv.uint64pow10" .u64 pow10Tab
theorem gPow : ∃ g, Tryd.prog.globalNamed "internal/strconv.uint64pow10" = some g := Option.isSome_iff_exists.1 (by kernel_rfl)
theorem Env.below {w w' : World} (h : Env w) (hb : Below w.heap.size w w') : Env w' := by
  obtain ⟨g, hg⟩ := gPow
  unfold Env TabIs World.var? at *
  rw [hg] at h ⊢
  simp only [Option.bind_some] at h ⊢
  have hlt : g < w.heap.size := by
    rcases Nat.lt_or_ge g w.heap.size with h' | h'
    · exact h'
    · rw [Array.getElem?_eq_none h'] at h; cases h
  rw [hb.block g hlt]
  exact h

theorem Itoa_any (n : Int) (w : World) (h0 : -9223372036854775808 ≤ n) (h1 : n ≤ 9223372036854775807) (he : Env w) :
    Calls Tryd.prog 31 #[.int .i64 n] w fun e w' => e = .returned (.string (mk (itoa n))) ∧ Below w.heap.size w w' := by
  refine (Any.strconv_Itoa Tryd.lays171 n h0 h1 w he).mono ?_
  rintro e w' ⟨rfl, k, os, rfl⟩
  exact ⟨rfl, below_grow _ _ (Nat.le_refl _) _ _⟩

/-- A line of the text. -/
def lineB (b : Nat) (x : St) : L8 := itoa b ++ [32] ++ itoa x.t ++ [32] ++ bl x.c ++ [32] ++ bl x.f ++ [32] ++ itoa x.h ++ [10]
theorem itoa_len {n : Int} (h0 : 0 ≤ n) (h1 : n < 1000000) : (itoa n).length ≤ 6 := by
  unfold itoa
  rw [if_neg (by omega)]
  exact nDigits_le6 (by omega)
theorem name_size {s : ByteArray} (h : nameB s = true) : s.size ≤ 8 := by
  unfold nameB at h
  simp only [Bool.and_eq_true, decide_eq_true_eq] at h
  exact h.1.2
theorem lineB_len {b : Nat} (hb : b ≤ 4) (x : Va) : (lineB b x.1).length ≤ 100 := by
  obtain ⟨h1, h2, h3, h4, h5, h6, h7, h8⟩ := stE_zero x.2
  have a1 := itoa_len (n := (b : Int)) (by omega) (by omega)
  have a2 := itoa_len (n := x.1.t) (by omega) (by omega)
  have a3 := itoa_len (n := x.1.h) (by omega) (by omega)
  have a4 := name_size h1
  have a5 := name_size h2
  unfold lineB
  simp only [List.length_append, List.length_singleton, size_bl]
  omega
def baySt (b : Nat) (s : List Va) : L8 := s.flatMap fun x => lineB b x.1
theorem baySt_snoc (b : Nat) (s : List Va) {j : Nat} (hj : j < s.length) : baySt b (s.take (j + 1)) = baySt b (s.take j) ++ lineB b s[j]!.1 := by
  unfold baySt
  rw [List.take_add_one, List.getElem?_eq_getElem hj, getElem!_pos s j hj, List.flatMap_append]
  simp
def allSt (S : Nat → List Va) : Nat → L8
  | 0 => []
  | b + 1 => allSt S b ++ baySt b (S b)
theorem allSt_congr {S S' : Nat → List Va} : ∀ b, (∀ k, k < b → S k = S' k) → allSt S b = allSt S' b
  | 0, _ => rfl
  | b + 1, h => by rw [allSt, allSt, allSt_congr b (fun k hk => h k (by omega)), h b (by omega)]

def TextP (l : List Va) (w : World) (e : Ending) (w' : World) : Prop :=
  ∃ S : Nat → List Va, e = .returned (.string (mk (allSt S 4))) ∧ (∀ k, k < 4 → (S k).Perm (bayF (k : Int) l)) ∧ Below w.heap.size w w'

set_option maxRecDepth 100000 in
set_option maxHeartbeats 8000000 in
theorem Text_any {g c : Nat} {A : Option Addr} {l : List Va} {w : World} (h : BdV g A c l w) (hn : l.length ≤ 15) (he : Env w) :
    Calls Tryd.prog 16 #[.pointer (some ⟨g, 0, none⟩)] w (TextP l w) := by
  have HB := Lib.hid h
  have HE := Lib.hid he
  have HN := Lib.hid hn
  have mixed := Tryd.lays171.mixed
  clear h he hn
  go_enter Tryd.func16, Tryd.ntmps16
  go_wp2
  go_loopw [3, 7] (fun o i wr => ∃ (b : Nat) (L : L8), b ≤ 4 ∧ i = .int .i64 (b : Int) ∧ o = .string (mk L) ∧ Hid (∃ S : Nat → List Va, (∀ k, k < b → (S k).Perm (bayF (k : Int) l)) ∧ L = allSt S b) ∧ Hid (L.length ≤ 1500 * b) ∧ Hid (Below w.heap.size w wr)) (fun _ i _ => 4 - (intOf i).toNat)
  case atStart => exact ⟨0, [], by omega, rfl, rfl, Lib.hid ⟨fun _ => [], fun k hk => absurd hk (by omega), rfl⟩, Lib.hid (by simp), Lib.hid (Below.refl _ _)⟩
  case round =>
    obtain ⟨b, L, hb, rfl, rfl, HL, HLen, HW⟩ := hrel
    by_cases hb4 : b < 4
    · have HBay := Lib.hid (Bay_any (HB.out.below HW.out) (b : Int) (by have := HN.out; omega))
      have hbl := bayF_len (b : Int) l
      unfold BayP at HBay
      obtain ⟨m, hm⟩ : ∃ m, (bayF (b : Int) l).length = m := ⟨_, rfl⟩
      rw [hm] at HBay hbl
      have HM := Lib.hid hm
      have hm15 : m ≤ 15 := by have := HN.out; omega
      have hb0 : (0 : Int) ≤ (b : Int) := by omega
      have hb4' : (b : Int) < 4 := by omega
      have hwb : IntKind.i64.wrap ((b : Int) + 1) = (b : Int) + 1 := IntWalk.i64_in _ (by omega)
      clear hm hbl
      obtain ⟨wo, rfl⟩ : ∃ wo : World, wo = wr := ⟨_, rfl⟩
      go_wp2_with (go_at_call 12; go_loud (refine HBay.out.mono ?_; rintro e w3 ⟨A', c', s, rfl, hp, hs, hsl, hb3, _⟩; have HP := Lib.hid hp; have HS := Lib.hid hsl; have HW3 := Lib.hid (HW.out.trans (hb3.mono HW.out.size)); clear hp hs hsl hb3))
      go_loopw [3, 14] (fun o i wr => ∃ (j : Nat) (L' : L8), j ≤ m ∧ i = .int .i64 (j : Int) ∧ o = .string (mk L') ∧ Hid (L' = L ++ baySt b (s.take j)) ∧ Hid (L'.length ≤ 1500 * b + 100 * j) ∧ Hid (Below w3.heap.size w3 wr)) (fun _ i _ => m - (intOf i).toNat)
      case atStart => exact ⟨0, L, by omega, rfl, rfl, Lib.hid (by simp [baySt]), Lib.hid (by have := HLen.out; omega), Lib.hid (Below.refl _ _)⟩
      case round =>
        obtain ⟨j, L', hj, rfl, rfl, HL', HLen', HR⟩ := hrel
        by_cases hjm : j < m
        · obtain ⟨bb, off, rfl, hbb, hr⟩ := HS.out (by omega)
          have hcs : ∀ q v, (vaV s[j]!)[q]? = some v → wr.cell? ⟨bb, off + j * 5 + q, none⟩ = some v := fun q v hv => (HR.out.cell (p := ⟨bb, off + j * 5 + q, none⟩) hbb).trans (hr j hjm q v hv)
          have HSn := Lib.hid (baySt_snoc b s (j := j) (by rw [HP.out.length_eq, HM.out]; exact hjm))
          obtain ⟨x, hx⟩ : ∃ x, s[j]! = x := ⟨_, rfl⟩
          rw [hx] at hcs HSn
          have d0 : wr.cell? ⟨bb, off + j * 5, none⟩ = some (.string x.1.c) := hcs 0 _ rfl
          have d1 : wr.cell? ⟨bb, off + j * 5 + 1, none⟩ = some (.string x.1.f) := hcs 1 _ rfl
          have d2 : wr.cell? ⟨bb, off + j * 5 + 2, none⟩ = some (.int .i64 x.1.t) := hcs 2 _ rfl
          have d3 : wr.cell? ⟨bb, off + j * 5 + 3, none⟩ = some (.int .i64 x.1.h) := hcs 3 _ rfl
          have d4 : wr.cell? ⟨bb, off + j * 5 + 4, none⟩ = some (.int .i64 x.1.b) := hcs 4 _ rfl
          obtain ⟨y1, y2, y3, y4, y5, y6, y7, y8⟩ := stE_zero x.2
          have HLn := Lib.hid (lineB_len (b := b) (by omega) x)
          have HIA := Lib.hid (fun (W : World) (hW : Env W) => Itoa_any (b : Int) W (by omega) (by omega) hW)
          have HIB := Lib.hid (fun (W : World) (hW : Env W) => Itoa_any x.1.t W (by omega) (by omega) hW)
          have HIC := Lib.hid (fun (W : World) (hW : Env W) => Itoa_any x.1.h W (by omega) (by omega) hW)
          have sa := itoa_len (n := (b : Int)) (by omega) (by omega)
          have sb := itoa_len (n := x.1.t) (by omega) (by omega)
          have sc := itoa_len (n := x.1.h) (by omega) (by omega)
          have sd := name_size y1
          have se := name_size y2
          rw [← size_mk] at sa sb sc
          obtain ⟨a, ha⟩ : ∃ a, mk (itoa (b : Int)) = a := ⟨_, rfl⟩
          obtain ⟨a2, ha2⟩ : ∃ a, mk (itoa x.1.t) = a := ⟨_, rfl⟩
          obtain ⟨a3, ha3⟩ : ∃ a, mk (itoa x.1.h) = a := ⟨_, rfl⟩
          have hend : mk L' ++ (a ++ (⟨#[32]⟩ : ByteArray) ++ a2 ++ (⟨#[32]⟩ : ByteArray) ++ x.1.c ++ (⟨#[32]⟩ : ByteArray) ++ x.1.f ++ (⟨#[32]⟩ : ByteArray) ++ a3 ++ (⟨#[10]⟩ : ByteArray)) = mk (L' ++ lineB b x.1) := by
            apply bl_inj
            rw [← ha, ← ha2, ← ha3, bl_mk]
            simp only [bl_append, bl_mk, bl1]
            unfold lineB
            rfl
          have HEND := Lib.hid hend
          rw [ha] at HIA sa
          rw [ha2] at HIB sb
          rw [ha3] at HIC sc
          have so : (mk L').size ≤ 10000 := by rw [size_mk]; have := HLen'.out; omega
          clear hend ha ha2 ha3 hcs hr hx y1 y2 y3 y4 y5 y6 y7 y8
          generalize x.1.c = xc at *
          generalize x.1.f = xf at *
          generalize x.1.t = xt at *
          generalize x.1.h = xh at *
          generalize x.1.b = xb at *
          obtain ⟨O, hO⟩ : ∃ O, mk L' = O := ⟨_, rfl⟩
          rw [hO] at HEND so ⊢
          have l1 : (j : Int) < (m : Int) := by omega
          have l0 : (0 : Int) ≤ (j : Int) := by omega
          have hwj : IntKind.i64.wrap ((j : Int) + 1) = (j : Int) + 1 := IntWalk.i64_in _ (by omega)
          have hE1 : Hid (Env wr) := Lib.hid ((HE.out.below HW3.out).below (HR.out.mono (by omega)))
          have n1 : ¬ 9223372036854775807 < a.size + 1 := by omega
          have n2 : ¬ 9223372036854775807 < a.size + 1 + a2.size := by omega
          have n3 : ¬ 9223372036854775807 < a.size + 1 + a2.size + 1 := by omega
          have n4 : ¬ 9223372036854775807 < a.size + 1 + a2.size + 1 + xc.size := by omega
          have n5 : ¬ 9223372036854775807 < a.size + 1 + a2.size + 1 + xc.size + 1 := by omega
          have n6 : ¬ 9223372036854775807 < a.size + 1 + a2.size + 1 + xc.size + 1 + xf.size := by omega
          have n7 : ¬ 9223372036854775807 < a.size + 1 + a2.size + 1 + xc.size + 1 + xf.size + 1 := by omega
          have n8 : ¬ 9223372036854775807 < a.size + 1 + a2.size + 1 + xc.size + 1 + xf.size + 1 + a3.size := by omega
          have n9 : ¬ 9223372036854775807 < a.size + 1 + a2.size + 1 + xc.size + 1 + xf.size + 1 + a3.size + 1 := by omega
          have n10 : ¬ 9223372036854775807 < O.size + (a.size + 1 + a2.size + 1 + xc.size + 1 + xf.size + 1 + a3.size + 1) := by omega
          go_wp2_with fail
          obtain ⟨w1, hw1⟩ : ∃ w1, wr.alloc (.cells #[.string xc, .string xf, .int .i64 xt, .int .i64 xh, .int .i64 xb] 24) = w1 := ⟨_, rfl⟩
          have hb1 : Below wr.heap.size wr w1 := by rw [← hw1]; exact (Below.refl _ wr).alloc (Nat.le_refl _) _
          have hn1 : w1.heap[wr.heap.size]? = some (.cells #[.string xc, .string xf, .int .i64 xt, .int .i64 xh, .int .i64 xb] 24 (0, 0)) := by rw [← hw1]; exact heap_alloc_new wr _
          rw [hw1]
          have HB1 := Lib.hid hb1
          have c0 := cell_of_row w1 wr.heap.size 0 _ 24 (0, 0) hn1
          have c1 := cell_of_row w1 wr.heap.size 1 _ 24 (0, 0) hn1
          have c2 := cell_of_row w1 wr.heap.size 2 _ 24 (0, 0) hn1
          have c3 := cell_of_row w1 wr.heap.size 3 _ 24 (0, 0) hn1
          have k0 := cell_regrown c0
          have k1 := cell_regrown c1
          have k2 := cell_regrown c2
          have k3 := cell_regrown c3
          have hE2 : Env w1 := hE1.out.below hb1
          have cA : ∀ d os, Calls Tryd.prog 31 #[.int .i64 (b : Int)] (Sort.grow (redrawn w1 d) os) fun e w'' => e = .returned (.string a) ∧ ∃ p : Regrown, w'' = Sort.grow (redrawn w1 p.d) p.os := fun d os =>
            Calls.regrown_of (HIA.out _ (hE2.below (below_regrown w1 d os)))
          have cB : ∀ d os, Calls Tryd.prog 31 #[.int .i64 xt] (Sort.grow (redrawn w1 d) os) fun e w'' => e = .returned (.string a2) ∧ ∃ p : Regrown, w'' = Sort.grow (redrawn w1 p.d) p.os := fun d os =>
            Calls.regrown_of (HIB.out _ (hE2.below (below_regrown w1 d os)))
          have cC : ∀ d os, Calls Tryd.prog 31 #[.int .i64 xh] (Sort.grow (redrawn w1 d) os) fun e w'' => e = .returned (.string a3) ∧ ∃ p : Regrown, w'' = Sort.grow (redrawn w1 p.d) p.os := fun d os =>
            Calls.regrown_of (HIC.out _ (hE2.below (below_regrown w1 d os)))
          clear hw1 hb1 hn1 d0 d1 d2 d3 d4
          refine wp_region_quiet_below (by assumption) (by kernel_rfl) ?_
          repeat (quiet_step (first | exact cA _ _ | exact cB _ _ | exact cC _ _))
          refine wpQuiet_nil ?_
          intro _ hw'
          obtain ⟨⟨dq, osq⟩, hw''⟩ := hw'
          subst hw''
          have HB2 : Hid (Below wr.heap.size wr (Sort.grow (redrawn w1 dq) osq)) := Lib.hid (HB1.out.trans ((below_regrown w1 dq osq).mono (by have := HB1.out.size; omega)))
          obtain ⟨w2, hw2⟩ : ∃ w2, Sort.grow (redrawn w1 dq) osq = w2 := ⟨_, rfl⟩
          rw [hw2] at HB2 ⊢
          have hE' := HEND.out
          clear hw2 n1 n2 n3 n4 n5 n6 n7 n8 n9 n10 cA cB cC k0 k1 k2 k3 c0 c1 c2 c3
          go_wp2_with fail
          go_roundw
          case rel =>
            refine ⟨j + 1, L' ++ lineB b x.1, by omega, by go_num, ?_, ?_, ?_, ?_⟩
            · rw [← hE']
            · exact Lib.hid (by rw [HSn.out, HL'.out, List.append_assoc])
            · exact Lib.hid (by rw [List.length_append]; have := HLen'.out; have := HLn.out; omega)
            · exact Lib.hid (HR.out.trans (HB2.out.mono HR.out.size))
          case measure => simp [intOf]; omega
        · obtain rfl : m = j := by omega
          go_wp2_with fail
          go_roundw
          case rel =>
            refine ⟨b + 1, L', by omega, by go_num, rfl, ?_, ?_, ?_⟩
            · obtain ⟨S, hS1, hS2⟩ := HL.out
              refine Lib.hid ⟨fun k => if k = b then s else S k, fun k hk => ?_, ?_⟩
              · by_cases e : k = b
                · subst e; simp only [if_pos]; exact HP.out
                · simp only [if_neg e]; exact hS1 k (by omega)
              · rw [HL'.out, hS2, allSt, List.take_of_length_le (Nat.le_of_eq (by rw [HP.out.length_eq, HM.out]))]
                congr 1
                · exact allSt_congr b (fun k hk => by simp only [if_neg (show k ≠ b by omega)])
                · simp
            · exact Lib.hid (by have := HLen'.out; omega)
            · exact Lib.hid (HW3.out.trans (HR.out.mono HW3.out.size))
          case measure => simp [intOf]; omega
    · obtain rfl : b = 4 := by omega
      go_wp2
      go_ret
      obtain ⟨S, hS1, hS2⟩ := HL.out
      exact ⟨S, by rw [hS2]; rfl, hS1, HW.out⟩
end Go.Proofs.YtadhkncilokdjaaDoor
