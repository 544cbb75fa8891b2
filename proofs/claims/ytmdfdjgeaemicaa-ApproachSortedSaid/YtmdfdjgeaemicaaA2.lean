/- Package approach: the contract of next. -/
import Derived.Test.YtmdfdjgeaemicaaA1
import Derived.BigQuiet
import Derived.Deep.QuietTactic
import Derived.IntWalk
namespace Go.Proofs.Ytmdfdjgeaemicaa
open Go.RowKit

/-- The earliest time behind the first k of an order. -/
def nextT (g : Nat → Int) (wk : Nat → Int) (od : Nat → Nat) (ts : Nat → Int) (r w : Int) : Nat → Int
  | 0 => r
  | k + 1 => max (nextT g wk od ts r w k) (ts k + g ((wk (od k)).toNat * 4 + w.toNat))

theorem nextT_bd {g : Nat → Int} {wk : Nat → Int} {od : Nat → Nat} {ts : Nat → Int} {r w : Int} {m : Nat} {T : Int} (hT : 0 ≤ r ∧ r ≤ T + 1000) (hw : 0 ≤ w ∧ w ≤ 3) (hg : ∀ i, i < 16 → gapOk (g i))
    (hwk : ∀ k, k < m → 0 ≤ wk (od k) ∧ wk (od k) ≤ 3) (hts : ∀ k, k < m → 0 ≤ ts k ∧ ts k ≤ T) : ∀ k, k ≤ m → 0 ≤ nextT g wk od ts r w k ∧ nextT g wk od ts r w k ≤ T + 1000
  | 0, _ => hT
  | k + 1, hk => by
    have ih := nextT_bd hT hw hg hwk hts k (by omega)
    have h1 := hwk k (by omega)
    have h2 := hts k (by omega)
    have h3 := hg ((wk (od k)).toNat * 4 + w.toNat) (by omega)
    unfold gapOk at h3
    simp only [nextT]
    omega

theorem next_step {g : Nat → Int} {wk : Nat → Int} {od : Nat → Nat} {ts : Nat → Int} {r w : Int} {j : Nat} :
    Value.int .i64 (if nextT g wk od ts r w j < ts j + g ((wk (od j)).toNat * 4 + w.toNat) then ts j + g ((wk (od j)).toNat * 4 + w.toNat) else nextT g wk od ts r w j) = .int .i64 (nextT g wk od ts r w (j + 1)) := by
  simp only [nextT]
  congr 1
  split <;> omega

set_option maxRecDepth 100000 in
set_option maxHeartbeats 1000000 in
theorem next_any (A O T : Option Addr) (n c m co ct : Nat) (its : Nat → It) (od : Nat → Nat) (ts : Nat → Int) (i : Nat) (G : Array Value) (g : Nat → Int) (w : World)
    (hA : Sl w w.heap.size 4 A n (fun i => (its i).row)) (hO : Sl w w.heap.size 1 O m (fun k => [.int .i64 (od k : Int)])) (hT : Sl w w.heap.size 1 T m (fun k => [.int .i64 (ts k)]))
    (hn : n ≤ 32) (hm : m ≤ 32) (hG : Gaps G g) (hi : i < n) (hg : ∀ i, i < 16 → gapOk (g i)) (hits : ∀ i, i < n → (its i).ok) (hod : ∀ k, k < m → od k < n) (hts : ∀ k, k < m → 0 ≤ ts k ∧ ts k ≤ 1000000000) :
    Calls Try.prog 23 #[.slice A n c, .slice O m co, .slice T m ct, .int .i64 (i : Int), .agg G] w fun e w' =>
      e = .returned (.int .i64 (nextT g (fun k => (its k).wk) od ts (its i).rd (its i).wk m)) ∧ Below w.heap.size w w' := by
  obtain ⟨b, off, rfl, hb, hrow⟩ := hA (by omega)
  have hri := hrow i hi
  have hoki := hits i hi
  unfold It.ok at hoki
  have bd : ∀ k, k ≤ m → 0 ≤ nextT g (fun k => (its k).wk) od ts (its i).rd (its i).wk k ∧ nextT g (fun k => (its k).wk) od ts (its i).rd (its i).wk k ≤ 1000000000 + 1000 :=
    nextT_bd (wk := fun k => (its k).wk) (by omega) (by omega) hg (fun k hk => by have := hits _ (hod k hk); unfold It.ok at this; omega) hts
  have BD := Lib.hid bd
  clear bd
  have HG := Lib.hid hg
  have HT := Lib.hid hits
  have HD := Lib.hid hod
  have HTS := Lib.hid hts
  have HR := Lib.hid hrow
  have HGG := Lib.hid hG
  clear hg hits hod hts hrow hG
  have c2 : w.cell? ⟨b, off + i * 4 + 2, none⟩ = some (.int .i64 (its i).rd) := hri 2 _ rfl
  have c1 : w.cell? ⟨b, off + i * 4 + 1, none⟩ = some (.int .i64 (its i).wk) := hri 1 _ rfl
  have hi1 : (i : Int) < (n : Int) := by omega
  have hi0 : (0 : Int) ≤ (i : Int) := by omega
  go_enter Try.func23, Try.ntmps23
  go_wp2
  go_loopw [11, 21] (fun t k wr => ∃ j : Nat, j ≤ m ∧ k = .int .i64 j ∧ t = .int .i64 (nextT g (fun k => (its k).wk) od ts (its i).rd (its i).wk j) ∧
      Hid (wr.heap[w.heap.size]? = some (.cells G 24 (0, 0))) ∧ Below w.heap.size w wr) (fun _ k _ => m - (intOf k).toNat)
  case atStart => exact ⟨0, by omega, rfl, rfl, heap_alloc_new w _, (Below.refl _ _).alloc (Nat.le_refl _) _⟩
  case round =>
    obtain ⟨j, hj, rfl, rfl, hbx, hbel⟩ := hrel
    have hbj := BD.out j hj
    by_cases hlt : j < m
    · obtain ⟨bo, oo, rfl, hbo, hro⟩ := hO.one (by omega)
      obtain ⟨bt, ot, rfl, hbt, hrt⟩ := hT.one (by omega)
      have hoj := HD.out j hlt
      have hokj := HT.out (od j) hoj
      have htj := HTS.out j hlt
      unfold It.ok at hokj
      have o1 : wr.cell? ⟨bo, oo + j, none⟩ = some (.int .i64 (od j : Int)) := (hbel.cell (p := ⟨bo, oo + j, none⟩) hbo).trans (hro j hlt)
      have t1 : wr.cell? ⟨bt, ot + j, none⟩ = some (.int .i64 (ts j)) := (hbel.cell (p := ⟨bt, ot + j, none⟩) hbt).trans (hrt j hlt)
      have m1 : wr.cell? ⟨b, off + od j * 4 + 1, none⟩ = some (.int .i64 (its (od j)).wk) := (hbel.cell (p := ⟨b, off + od j * 4 + 1, none⟩) hb).trans (HR.out (od j) hoj 1 _ rfl)
      have i1 : wr.cell? ⟨b, off + i * 4 + 1, none⟩ = some (.int .i64 (its i).wk) := (hbel.cell (p := ⟨b, off + i * 4 + 1, none⟩) hb).trans c1
      have g1 : wr.cell? ⟨w.heap.size, (its (od j)).wk.toNat * 4 + (its i).wk.toNat, none⟩ = some (.int .i64 (g ((its (od j)).wk.toNat * 4 + (its i).wk.toNat))) := by
        rw [cell_of_row wr _ _ _ _ _ hbx.out]; exact HGG.out.2 _ (by omega)
      have hgj := HG.out ((its (od j)).wk.toNat * 4 + (its i).wk.toNat) (by omega)
      unfold gapOk at hgj
      have ho1 : (od j : Int) < (n : Int) := by omega
      have ho0 : (0 : Int) ≤ (od j : Int) := by omega
      have hw1 : (IntKind.i64).wrap (ts j + g ((its (od j)).wk.toNat * 4 + (its i).wk.toNat)) = ts j + g ((its (od j)).wk.toNat * 4 + (its i).wk.toNat) := IntWalk.i64_in _ (by omega)
      clear c1 c2 hri
      go_wp2
      go_quiet (fail)
      go_wp2
      go_roundw
      case rel => exact ⟨j + 1, by omega, by go_num, next_step, hbx, below_drewN hbel _⟩
      case measure => simp [intOf]; omega
    · have e : j = m := by omega
      subst e
      go_wp2
      go_ret
      exact ⟨rfl, hbel⟩
end Go.Proofs.Ytmdfdjgeaemicaa
