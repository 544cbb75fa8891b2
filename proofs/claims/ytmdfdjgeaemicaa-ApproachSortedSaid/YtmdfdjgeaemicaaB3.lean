/- The walk of ApproachLater. -/
import Derived.Test.YtmdfdjgeaemicaaB1
import Derived.Test.YtmdfdjgeaemicaaClone
import Derived.Test.YtmdfdjgeaemicaaApp
import Derived.Test.YtmdfdjgeaemicaaRow
import Derived.Test.YtmdfdjgeaemicaaEq
namespace Go.Proofs.Ytmdfdjgeaemicaa
open Go.RowKit

/-- The first k arrivals are later by dt. -/
def shIt (dt : Int) (its : Nat → It) (k i : Nat) : It := if i < k then ⟨(its i).nm, (its i).wk, (its i).rd + dt, (its i).sl + dt⟩ else its i

theorem shIt_zero (dt : Int) (its : Nat → It) : shIt dt its 0 = its := by funext i; simp [shIt]
theorem shIt_at (dt : Int) (its : Nat → It) (k : Nat) : shIt dt its k k = its k := by simp [shIt]
theorem row_len (x : It) : x.row.length = 4 := rfl
theorem row_one (x : It) : ∀ u ∈ x.row, u.oneCell' = true := by
  intro u hu
  simp only [It.row, List.mem_cons, List.not_mem_nil, or_false] at hu
  rcases hu with rfl | rfl | rfl | rfl <;> rfl

theorem shIt_step (dt : Int) (its : Nat → It) (k n : Nat) (hk : k < n) :
    ((flatR (fun i => (shIt dt its k i).row) n).set (k * 4 + 2) (.int .i64 ((its k).rd + dt))).set (k * 4 + 3) (.int .i64 ((its k).sl + dt)) = flatR (fun i => (shIt dt its (k + 1) i).row) n := by
  rw [flatR_set (by decide) (fun i _ => row_len _) k 2 hk (by decide), flatR_set (by decide) (fun i _ => by
    split
    · rw [List.length_set, row_len]
    · rfl) k 3 hk (by decide)]
  congr 1
  funext x
  by_cases e : x = k
  · subst e
    rw [if_pos rfl, if_pos rfl, shIt_at]
    simp [shIt, It.row]
  · rw [if_neg e, if_neg e]
    simp only [shIt]
    by_cases h : x < k
    · rw [if_pos h, if_pos (by omega)]
    · rw [if_neg h, if_neg (by omega)]

theorem nextT_add {g : Nat → Int} {wk : Nat → Int} {od : Nat → Nat} {ts ts' : Nat → Int} {r w dt : Int} : ∀ m, (∀ k, k < m → ts' k = ts k + dt) → nextT g wk od ts' (r + dt) w m = nextT g wk od ts r w m + dt
  | 0, _ => rfl
  | m + 1, h => by
    simp only [nextT]
    rw [nextT_add m (fun k hk => h k (by omega)), h m (by omega)]
    omega

theorem nextT_wk {g : Nat → Int} {wk wk' : Nat → Int} {od : Nat → Nat} {ts : Nat → Int} {r w : Int} : ∀ m, (∀ k, k < m → wk (od k) = wk' (od k)) → nextT g wk od ts r w m = nextT g wk' od ts r w m
  | 0, _ => rfl
  | m + 1, h => by
    simp only [nextT]
    rw [nextT_wk m (fun k hk => h k (by omega)), h m (by omega)]

theorem tT_later {g : Nat → Int} {its : Nat → It} {dt : Int} {n : Nat} : ∀ i, i < n → tT g (shIt dt its n) i = tT g its i + dt := by
  intro i
  induction i using Nat.strongRecOn with
  | _ i ih =>
    intro hi
    rw [tT_eq, tT_eq]
    have e : ∀ k, k < n → (shIt dt its n k).wk = (its k).wk ∧ (shIt dt its n k).rd = (its k).rd + dt := fun k hk => by simp [shIt, hk]
    rw [(e i hi).2, (e i hi).1, nextT_wk (wk' := fun k => (its k).wk) i (fun k hk => (e k (by show k < n; omega)).1)]
    exact nextT_add i (fun k hk => ih k hk (by omega))

theorem code_later {n : Nat} {its : Nat → It} {g : Nat → Int} {dt : Int} (h0 : 0 ≤ dt) (hl : ∀ i, i < n → (its i).rd ≤ 200000 - dt ∧ (its i).sl ≤ 200000 - dt) (hc : checkCode n its g = 0) : checkCode n (shIt dt its n) g = 0 := by
  obtain ⟨h1, h2, h3⟩ := checkCode_inv hc
  refine checkCode_ok (by omega) h2 (fun i hi => ?_)
  have := h3 i hi
  have h4 := hl i hi
  unfold It.ok at this ⊢
  simp only [shIt, hi, if_true]
  omega

def Wf (x : It) : Prop := -9223372036854775808 ≤ x.rd ∧ -9223372036854775808 ≤ x.sl

theorem all_step {P : Nat → Prop} {k : Nat} (h : Hid (∀ i, i < k → P i)) (hk : P k) : Hid (∀ i, i < k + 1 → P i) := fun i hi => by
  by_cases e : i = k
  · subst e; exact hk
  · exact h.out i (by omega)

theorem Times_any (A : Option Addr) (n c : Nat) (its : Nat → It) (G : Array Value) (g : Nat → Int) (w : World) (hA : Sl w w.heap.size 4 A n (fun i => (its i).row)) (hn : n ≤ maxLen) (hG : Gaps G g) :
    Calls Try.prog 8 #[.slice A n c, .agg G] w fun e w' => ∃ v q, e = .returned (.tuple #[v, .int .i64 q]) ∧ Below w.heap.size w w' := by
  by_cases hc : checkCode n its g = 0
  · exact (Times_ok A n c its G g w hA hn hG hc).mono fun e w' ⟨v, h1, _, h3⟩ => ⟨v, 0, h1, h3⟩
  · exact (Times_bad A n c its G g w hA hn hG hc).mono fun e w' ⟨h1, h3⟩ => ⟨_, _, h1, h3⟩

set_option maxRecDepth 100000 in
set_option maxHeartbeats 3000000 in
theorem Later_any (A : Option Addr) (n c : Nat) (its : Nat → It) (G : Array Value) (g : Nat → Int) (d : Int) (w : World) (hA : Sl w w.heap.size 4 A n (fun i => (its i).row)) (hn : n ≤ maxLen) (hby : n * 40 ≤ 140737488355328) (hnil : A = none → n = 0) (hG : Gaps G g)
    (hwf : ∀ i, i < n → Wf (its i)) :
    Calls Try.prog 4 #[.slice A n c, .agg G, .int .i64 d] w fun e w' => e = .returned (.bool true) ∧ Below w.heap.size w w' := by
  have HS := Lib.hid hG.1
  have HW := Lib.hid hwf
  obtain ⟨dt, hdt⟩ : ∃ dt, dt = cutI d 0 500 := ⟨_, rfl⟩
  have hd := cutI_bd (n := d) (lo := 0) (hi := 500) (by omega)
  rw [← hdt] at hd
  have HD := Lib.hid hdt
  clear hwf hdt
  have hb0 : Below w.heap.size w (w.alloc (.cells G 24)) := (Below.refl _ _).alloc (Nat.le_refl _) _
  have hA1 := (hA.below hb0).more hb0.size
  unfold maxLen at hn
  go_enter Try.func4, Try.ntmps4
  go_wp2_with (first
    | (go_at_call 11; refine (Cut_any _ _ _ _ (by omega) (by omega) (by omega)).mono ?_; rintro e w1 ⟨rfl, rfl⟩; rw [← HD.out])
    | (go_at_call 12; refine (CloneItems_any A n c _ _ hA1 (fun i _ => row_len _) (fun i _ => row_one _) hnil (by unfold maxLen; omega) hby).mono ?_; rintro e w1 ⟨v, rfl, hown, hb1⟩; obtain ⟨M, cm, rfl⟩ := own_shape hown))
  have hs1 := hb1.size
  simp only [World.size_alloc] at hs1
  have hbx1 : Hid (w1.heap[w.heap.size]? = some (.cells G 24 (0, 0))) := (hb1.block _ (by simp)).trans (heap_alloc_new w _)
  have hbel1 : Below w.heap.size w w1 := hb0.trans (hb1.mono hb0.size)
  go_loopw [20] (fun k wr => ∃ j : Nat, j ≤ n ∧ k = .int .i64 j ∧ wr.ownsRow (w.heap.size + 1) 32 4 (.slice M n cm) n (flatR (fun i => (shIt dt its j i).row) n) ∧
      Hid (∀ i, i < j → (its i).rd ≤ 200000 - dt ∧ (its i).sl ≤ 200000 - dt) ∧ Hid (wr.heap[w.heap.size]? = some (.cells G 24 (0, 0))) ∧ Hid (w.heap.size + 1 ≤ wr.heap.size) ∧ Below w.heap.size w wr) (fun k _ => n - (intOf k).toNat)
  case atStart => exact ⟨0, by omega, rfl, by rw [shIt_zero]; simpa using hown, fun i hi => absurd hi (by omega), hbx1, hs1, hbel1⟩
  case round =>
    obtain ⟨j, hj, rfl, hown2, hall, hbx, hsz, hbel⟩ := hrel
    clear hown
    by_cases hlt : j < n
    · obtain ⟨gm, cap, hM, hgb, hgl⟩ := hown2.form (by omega)
      have hM2 : M = some ⟨gm, 0, none⟩ ∧ cm = cap := by injection hM with a b c'; exact ⟨a, c'⟩
      obtain ⟨rfl, rfl⟩ := hM2
      clear hM
      have hl := flatR_len (k := 4) n (fun i _ => row_len (shIt dt its j i))
      have f2 := hown2.frozenAt (j * 4 + 2)
      have f3 := hown2.frozenAt (j * 4 + 3)
      have c2 : wr.cell? ⟨gm, j * 4 + 2, none⟩ = some (.int .i64 (its j).rd) := by
        rw [hown2.cellAt _ (by omega), flatR_get n (fun i _ => row_len _) j 2 hlt (by decide), shIt_at]; rfl
      have c3 : wr.cell? ⟨gm, j * 4 + 3, none⟩ = some (.int .i64 (its j).sl) := by
        rw [hown2.cellAt _ (by omega), flatR_get n (fun i _ => row_len _) j 3 hlt (by decide), shIt_at]; rfl
      have hw := HW.out j hlt
      unfold Wf at hw
      obtain ⟨w1', w2'⟩ := hw
      clear hl
      by_cases h1 : (its j).rd ≤ 200000 - dt
      · by_cases h2 : (its j).sl ≤ 200000 - dt
        · go_wp2
          go_roundw
          case rel => exact ⟨j + 1, by omega, by go_num, by
            have := ((hown2.stored (j * 4 + 2) (.int .i64 ((its j).rd + dt))).1.stored (j * 4 + 3) (.int .i64 ((its j).sl + dt))).1
            rw [shIt_step dt its j n hlt] at this; exact this, all_step hall ⟨h1, h2⟩,
            (Below.heap_setCell _ _ _ _ (by show w.heap.size ≠ gm; omega)).trans ((Below.heap_setCell _ _ _ _ (by show w.heap.size ≠ gm; omega)).trans hbx.out),
            Nat.le_trans hsz.out (((Below.refl 0 wr).setCell (p := ⟨gm, j * 4 + 2, none⟩) (Nat.zero_le _) _).setCell (p := ⟨gm, j * 4 + 3, none⟩) (Nat.zero_le _) _).size,
            (hbel.setCell (p := ⟨gm, j * 4 + 2, none⟩) (by show w.heap.size ≤ gm; omega) _).setCell (p := ⟨gm, j * 4 + 3, none⟩) (by show w.heap.size ≤ gm; omega) _⟩
          case measure => simp [intOf]; omega
        · go_wp2_with (go_at_call 9; refine (fact_any _).mono ?_; rintro e w2 ⟨rfl, hb2⟩)
          go_ret
          exact ⟨rfl, hbel.trans (hb2.mono hbel.size)⟩
      · go_wp2_with (go_at_call 9; refine (fact_any _).mono ?_; rintro e w2 ⟨rfl, hb2⟩)
        go_ret
        exact ⟨rfl, hbel.trans (hb2.mono hbel.size)⟩
    · obtain rfl : n = j := by omega
      have hA2 := (hA.below hbel).more hbel.size
      have hM2 : Sl wr wr.heap.size 4 M n (fun i => (shIt dt its n i).row) := Sl_flat (fun i _ => row_len _) hown2
      have hld := hbx.out
      have hszz := hsz.out
      by_cases hcode : checkCode n its g = 0
      · have HC := Lib.hid hcode
        have HC2 := Lib.hid (code_later hd.1 hall.out hcode)
        clear hcode
        have tok1 : True := trivial
        go_wp2_with (first
          | (refine wpList_load_row_w 24 _ rfl w.heap.size rfl rfl 24 G (0, 0) _ hbx.out Try.underlying24 rfl (by rw [HS.out]; kernel_rfl) ?_)
          | (go_at_call 8; have _t := tok1; refine (Times_ok A n c its G g _ hA2 (by unfold maxLen; omega) hG HC.out).mono ?_; rintro e w2 ⟨v, rfl, hT, hb2⟩; obtain ⟨T, ct, rfl⟩ := own_shape hT
             have hM3 := (hM2.below hb2).more hb2.size
             have hbx2 := (hb2.block _ (by omega)).trans hbx.out
             clear tok1)
          | (refine wpList_load_row_w 24 _ rfl w.heap.size rfl rfl 24 G (0, 0) _ hbx2 Try.underlying24 rfl (by rw [HS.out]; kernel_rfl) ?_)
          | (go_at_call 8; refine (Times_ok M n cm (shIt dt its n) G g _ hM3 (by unfold maxLen; omega) hG HC2.out).mono ?_; rintro e w3 ⟨v, rfl, hU, hb3⟩; obtain ⟨U, cu, rfl⟩ := own_shape hU))
        have hTU : ApartV (.slice T n ct) (.slice U n cu) := apart_base hT hU (Nat.le_refl _)
        have hT3 := own_below hT hb3 (Nat.le_refl _)
        have hz2 := hb2.size
        have hz3 := hb3.size
        have hzw := hbel.size
        have hbel3 : Below w.heap.size w w3 := (hbel.trans (hb2.mono hbel.size)).trans (hb3.mono (by omega))
        have hT4 := own_mono hT3 hzw
        have hU4 := own_mono hU (Nat.le_trans hzw hz2)
        clear hT hT3 hU hown2 hM2 hM3 hbx2 hld hA2
        have e0 : (fun i : Nat => if i < 0 then tT g its i + dt else tT g its i) = tT g its := by funext i; simp
        rw [← e0] at hT4
        clear e0
        have HBD := Lib.hid (tT_bd (checkCode_inv HC.out).2.1 (checkCode_inv HC.out).2.2)
        have h32 := (checkCode_inv HC.out).1
        go_loopw [83] (fun k wr => ∃ j : Nat, j ≤ n ∧ k = .int .i64 j ∧ wr.ownsRow w.heap.size 3 1 (.slice T n ct) n (intsV ((List.range n).map fun i : Nat => if i < j then tT g its i + dt else tT g its i)) ∧
          wr.ownsRow w.heap.size 3 1 (.slice U n cu) n (intsV ((List.range n).map (tT g (shIt dt its n)))) ∧ Below w.heap.size w wr) (fun k _ => n - (intOf k).toNat)
        case atStart => exact ⟨0, by omega, rfl, hT4, hU4, hbel3⟩
        case round =>
          obtain ⟨j, hj, rfl, hT5, hU5, hbel5⟩ := hrel
          clear hT4 hU4
          by_cases hlt : j < n
          · obtain ⟨gt, cap, hF, hgb, hgl⟩ := hT5.form (by omega)
            have hF2 : T = some ⟨gt, 0, none⟩ ∧ ct = cap := by injection hF with a b c'; exact ⟨a, c'⟩
            obtain ⟨rfl, rfl⟩ := hF2
            clear hF
            have ft := hT5.frozenAt j
            have ctt : wr.cell? ⟨gt, j, none⟩ = some (.int .i64 (tT g its j)) := by
              rw [hT5.cellAt _ (by omega), intsV_get hlt, if_neg (by omega)]
            have hbj := HBD.out j hlt
            go_wp2
            go_roundw
            case rel => exact ⟨j + 1, by omega, by go_num, by
              have := (hT5.stored j (.int .i64 (tT g its j + dt))).1
              rw [intsV_set] at this
              have e1 : (fun i : Nat => if i = j then tT g its j + dt else if i < j then tT g its i + dt else tT g its i) = fun i : Nat => if i < j + 1 then tT g its i + dt else tT g its i := by
                funext i
                by_cases h1 : i = j
                · subst h1; rw [if_pos rfl, if_pos (by omega)]
                · rw [if_neg h1]
                  by_cases h2 : i < j
                  · rw [if_pos h2, if_pos (by omega)]
                  · rw [if_neg h2, if_neg (by omega)]
              rw [e1] at this; exact this, own_apart hU5 (hT5.stored j (.int .i64 (tT g its j + dt))).2 rfl hTU,
              hbel5.setCell (p := ⟨gt, j, none⟩) hgb _⟩
            case measure => simp [intOf]; omega
          · obtain rfl : n = j := by omega
            have heq : eqB n n (fun i : Nat => if i < n then tT g its i + dt else tT g its i) (tT g (shIt dt its n)) = true := eqB_true rfl (fun i hi => by rw [tT_later i hi]; simp [hi])
            have HE := Lib.hid heq
            have hsT := Sl_ints hT5
            have hsU := Sl_ints hU5
            clear heq hT5 hU5
            go_wp2_with (first
              | (go_at_call 9; refine (fact_any _).mono ?_; rintro e w6 ⟨rfl, hb6⟩
                 have hsT6 := (hsT.below hb6).more hb6.size
                 have hsU6 := (hsU.below hb6).more hb6.size)
              | (go_at_call 13; refine (Equal_any T U n n ct cu w6.heap.size _ _ _ hsT6 hsU6 (by omega) (by omega)).mono ?_; rintro e w7 ⟨rfl, hb7⟩; rw [HE.out]))
            go_ret
            exact ⟨rfl, (hbel5.trans (hb6.mono hbel5.size)).trans (hb7.mono (Nat.le_trans hbel5.size hb6.size))⟩
      · have HC := Lib.hid hcode
        have hne : (checkCode n its g != 0) = true := by rw [bne_iff_ne]; exact hcode
        clear hcode
        have tok1 : True := trivial
        go_wp2_with (first
          | (refine wpList_load_row_w 24 _ rfl w.heap.size rfl rfl 24 G (0, 0) _ hbx.out Try.underlying24 rfl (by rw [HS.out]; kernel_rfl) ?_)
          | (go_at_call 8; have _t := tok1; refine (Times_bad A n c its G g _ hA2 (by unfold maxLen; omega) hG HC.out).mono ?_; rintro e w2 ⟨rfl, hb2⟩
             have hM3 := (hM2.below hb2).more hb2.size
             have hbx2 := (hb2.block _ (by omega)).trans hbx.out
             clear tok1)
          | (refine wpList_load_row_w 24 _ rfl w.heap.size rfl rfl 24 G (0, 0) _ hbx2 Try.underlying24 rfl (by rw [HS.out]; kernel_rfl) ?_)
          | (go_at_call 8; refine (Times_any M n cm (shIt dt its n) G g _ hM3 (by unfold maxLen; omega) hG).mono ?_; rintro e w3 ⟨v, q, rfl, hb3⟩)
          | (go_at_call 9; refine (fact_any _).mono ?_; rintro e w4 ⟨rfl, hb4⟩))
        go_ret
        exact ⟨rfl, ((hbel.trans (hb2.mono hbel.size)).trans (hb3.mono (Nat.le_trans hbel.size hb2.size))).trans (hb4.mono (Nat.le_trans hbel.size (Nat.le_trans hb2.size hb3.size)))⟩
end Go.Proofs.Ytmdfdjgeaemicaa
