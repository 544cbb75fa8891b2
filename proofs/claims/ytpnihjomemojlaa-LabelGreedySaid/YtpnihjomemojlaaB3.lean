/- Package label: search. -/
import Derived.Test.YtpnihjomemojlaaB2
import Derived.Test.YtpnihjomemojlaaMore
import Derived.Deep.RegionHeld3
import Derived.Deep.RegionLawGrows
import Derived.Deep.AppendLies
namespace Go.Proofs.Ytpnihjomemojlaa
open Go.RowKit

/-- The search: the first of the positions from 8 - r on that leads on. -/
def srchK (f : List Int → List Bx → Option (List Int)) (l : List It) (s : List Int) (u : List Bx) : Nat → Option (List Int)
  | 0 => none
  | r + 1 => if freeB l u (boxS l[s.length]! (7 - r)) = true then (match f (s ++ [((7 - r : Nat) : Int)]) (u ++ [boxS l[s.length]! (7 - r)]) with | some o => some o | none => srchK f l s u r) else srchK f l s u r
def srch (l : List It) : Nat → List Int → List Bx → Option (List Int)
  | 0, s, _ => some s
  | f + 1, s, u => srchK (srch l f) l s u 8

def intV1 (x : Int) : List Value := [.int .i64 x]
/-- What search answers. -/
def SrchP (o : Option (List Int)) (w : World) (e : Ending) (w' : World) : Prop :=
  ∃ A c, e = .returned (.slice A (o.getD []).length c) ∧ (o = none → A = none ∧ c = 0) ∧ (o.isSome = true → A ≠ none) ∧ Sl w' w'.heap.size 1 A (o.getD []).length (fun i => intV1 (o.getD [])[i]!) ∧ Below w.heap.size w w'

theorem srchK_next {f : List Int → List Bx → Option (List Int)} {l : List It} {s : List Int} {u : List Bx} {j : Nat} (hj : j < 8) : srchK f l s u (8 - j) =
    if freeB l u (boxS l[s.length]! j) = true then (match f (s ++ [(j : Int)]) (u ++ [boxS l[s.length]! j]) with | some o => some o | none => srchK f l s u (8 - (j + 1))) else srchK f l s u (8 - (j + 1)) := by
  rw [show 8 - j = (8 - (j + 1)) + 1 by omega]
  conv => lhs; unfold srchK
  rw [show 7 - (8 - (j + 1)) = j by omega]

/-- The world of the region: what lay there lies there still, the box too. -/
theorem sr_alloc {w3 W : World} {gb : Nat} {x y v h : Int} (o : Obj) (hg : gb < w3.heap.size) (hs : Below w3.heap.size w3 W ∧ W.cell? ⟨gb, 0, none⟩ = some (.int .i64 x) ∧ W.cell? ⟨gb, 1, none⟩ = some (.int .i64 y) ∧ W.cell? ⟨gb, 2, none⟩ = some (.int .i64 v) ∧ W.cell? ⟨gb, 3, none⟩ = some (.int .i64 h)) :
    Below w3.heap.size w3 (W.alloc o) ∧ (W.alloc o).cell? ⟨gb, 0, none⟩ = some (.int .i64 x) ∧ (W.alloc o).cell? ⟨gb, 1, none⟩ = some (.int .i64 y) ∧ (W.alloc o).cell? ⟨gb, 2, none⟩ = some (.int .i64 v) ∧ (W.alloc o).cell? ⟨gb, 3, none⟩ = some (.int .i64 h) := by
  have hb : Below W.heap.size W (W.alloc o) := (Below.refl _ W).alloc (Nat.le_refl _) o
  have hgW : gb < W.heap.size := Nat.lt_of_lt_of_le hg hs.1.size
  exact ⟨hs.1.alloc hs.1.size o, (hb.cell (p := ⟨gb, 0, none⟩) hgW).trans hs.2.1, (hb.cell (p := ⟨gb, 1, none⟩) hgW).trans hs.2.2.1, (hb.cell (p := ⟨gb, 2, none⟩) hgW).trans hs.2.2.2.1, (hb.cell (p := ⟨gb, 3, none⟩) hgW).trans hs.2.2.2.2⟩
theorem sr_below {w3 W W' : World} {gb : Nat} {x y v h : Int} (hb : Below W.heap.size W W') (hg : gb < w3.heap.size) (hs : Below w3.heap.size w3 W ∧ W.cell? ⟨gb, 0, none⟩ = some (.int .i64 x) ∧ W.cell? ⟨gb, 1, none⟩ = some (.int .i64 y) ∧ W.cell? ⟨gb, 2, none⟩ = some (.int .i64 v) ∧ W.cell? ⟨gb, 3, none⟩ = some (.int .i64 h)) :
    Below w3.heap.size w3 W' ∧ W'.cell? ⟨gb, 0, none⟩ = some (.int .i64 x) ∧ W'.cell? ⟨gb, 1, none⟩ = some (.int .i64 y) ∧ W'.cell? ⟨gb, 2, none⟩ = some (.int .i64 v) ∧ W'.cell? ⟨gb, 3, none⟩ = some (.int .i64 h) := by
  have hgW : gb < W.heap.size := Nat.lt_of_lt_of_le hg hs.1.size
  exact ⟨hs.1.trans (hb.mono hs.1.size), (hb.cell (p := ⟨gb, 0, none⟩) hgW).trans hs.2.1, (hb.cell (p := ⟨gb, 1, none⟩) hgW).trans hs.2.2.1, (hb.cell (p := ⟨gb, 2, none⟩) hgW).trans hs.2.2.2.1, (hb.cell (p := ⟨gb, 3, none⟩) hgW).trans hs.2.2.2.2⟩
theorem SrchP.no {w w' : World} {e : Ending} (h : SrchP none w e w') : e = .returned (.slice none 0 0) ∧ Below w.heap.size w w' := by
  obtain ⟨A, c, he, h1, _, _, hb⟩ := h
  obtain ⟨rfl, rfl⟩ := h1 rfl
  exact ⟨he, hb⟩
theorem SrchP.yes {w w' : World} {e : Ending} {o : List Int} (h : SrchP (some o) w e w') : ∃ a c, e = .returned (.slice (some a) o.length c) ∧ Sl w' w'.heap.size 1 (some a) o.length (fun i => intV1 o[i]!) ∧ Below w.heap.size w w' := by
  obtain ⟨A, c, he, _, h2, h3, hb⟩ := h
  obtain ⟨a, rfl⟩ := Option.ne_none_iff_exists'.1 (h2 rfl)
  exact ⟨a, c, he, h3, hb⟩
theorem intV1_rows (s : List Int) : rowsV intV1 s = s.map (Value.int .i64) := by
  induction s with
  | nil => rfl
  | cons a s ih => rw [List.map_cons, ← ih]; rfl
theorem Sl_cells {α : Type} [Inhabited α] {enc : α → List Value} {k : Nat} (hk : ∀ x, (enc x).length = k) {w : World} {b o n : Nat} {s : List α} (h : ∀ i, i < n → w.rangeAt b (o + i * k) (enc s[i]!)) (hl : s.length = n) (hk0 : 0 < k) :
    ∀ j u, (rowsV enc s)[j]? = some u → w.cell? ⟨b, o + j, none⟩ = some u := fun j u hu => by
  rw [rowsV_flat hk s, hl] at hu
  obtain ⟨h1, h2⟩ := flatR_at (row := fun i => enc s[i]!) hk0 (fun _ _ => hk _) hu
  have := h (j / k) h1 (j % k) u h2
  have hjd : j / k * k + j % k = j := by rw [Nat.mul_comm]; exact Nat.div_add_mod j k
  rw [show o + j / k * k + j % k = o + j by omega] at this
  exact this
theorem sr_row {α : Type} [Inhabited α] {enc : α → List Value} {k : Nat} (hk : ∀ x, (enc x).length = k) (hk0 : 0 < k) {w w3 W : World} {b o n : Nat} {s : List α} {Q : Prop} (h : Sl w w.heap.size k (some ⟨b, o, none⟩) n (fun i => enc s[i]!)) (hn : 0 < n) (hl : s.length = n) (hB : Below w.heap.size w w3) (hS : Below w3.heap.size w3 W ∧ Q) :
    ∀ b' : Addr, (some ⟨b, o, none⟩ : Option Addr) = some b' → ∀ j u, (rowsV enc s)[j]? = some u → W.cell? (b'.add j) = some u := fun b' hb' j u hu => by
  obtain rfl := Option.some.inj hb'
  obtain ⟨b1, o1, he, hb, hr⟩ := h hn
  have h9 := Option.some.inj he
  have e1 : b = b1 := congrArg Addr.block h9
  have e2 : o = o1 := congrArg Addr.off h9
  subst e1 e2
  have hc := Sl_cells hk hr hl hk0 j u hu
  rw [Addr.add_lit]
  exact ((hS.1.cell (p := ⟨b, o + j, none⟩) (Nat.lt_of_lt_of_le hb hB.size)).trans (hB.cell (p := ⟨b, o + j, none⟩) hb)).trans hc
theorem sr_items {w w3 W : World} {A : Option Addr} {N : Nat} {row : Nat → List Value} {Q : Prop} (h : Sl w w.heap.size 4 A N row) (hB : Below w.heap.size w w3) (hS : Below w3.heap.size w3 W ∧ Q) : Sl W W.heap.size 4 A N row := by
  have hb := hB.trans (hS.1.mono hB.size)
  exact (h.below hb).more hb.size
theorem sr_out {w w3 W : World} {Q : Prop} (hB : Below w.heap.size w w3) (hS : Below w3.heap.size w3 W ∧ Q) : Below w.heap.size w W := hB.trans (hS.1.mono hB.size)
theorem sr_new {W : World} {N : Nat} {cs : Array Value} {e : TypeId} (h : W.heap[N]? = some (.cells cs e (0, 0))) : ∀ j u, cs.toList[j]? = some u → W.cell? ((⟨N, 0, none⟩ : Addr).add j) = some u := fun j u hu => by
  rw [Addr.add_mid, Nat.zero_add, cell_of_row _ _ _ _ _ _ h]
  simpa using hu
theorem below_grow {W W' : World} (h : W.grownBy W' none) : Below W.heap.size W W' := (Below.refl _ W).grown h (Nat.le_refl _) (fun k hk => by cases hk)

set_option maxRecDepth 100000 in
set_option maxHeartbeats 4000000 in
theorem search_some (A : Option Addr) (N cl : Nat) (l : List It) (f : Nat) (bs bu : Addr) (n cs cu : Nat) (s : List Int) (u : List Bx) (w : World) (hl : l.length = N) (hN : N ≤ 6)
    (hA : Sl w w.heap.size 4 A N (fun i => itV l[i]!)) (hS : Sl w w.heap.size 1 (some bs) n (fun i => intV1 s[i]!)) (hU : Sl w w.heap.size 4 (some bu) n (fun i => bxV u[i]!))
    (hsl : s.length = n) (hul : u.length = n) (hcs : n ≤ cs) (hcu : n ≤ cu) (hn0 : 0 < n) (hf : n + (f + 1) = N)
    (ih : ∀ (bs bu : Addr) (cs cu : Nat) (s : List Int) (u : List Bx) (w : World), Sl w w.heap.size 4 A N (fun i => itV l[i]!) → Sl w w.heap.size 1 (some bs) (n + 1) (fun i => intV1 s[i]!) → Sl w w.heap.size 4 (some bu) (n + 1) (fun i => bxV u[i]!) → s.length = n + 1 → u.length = n + 1 → n + 1 ≤ cs → n + 1 ≤ cu →
      Calls Try.prog 19 #[.slice A N cl, .slice (some bs) (n + 1) cs, .slice (some bu) (n + 1) cu] w (SrchP (srch l f s u) w)) :
    Calls Try.prog 19 #[.slice A N cl, .slice (some bs) n cs, .slice (some bu) n cu] w (SrchP (srch l (f + 1) s u) w) := by
  obtain ⟨bsb, bso, hbs, hsb, hsr⟩ := hS hn0
  obtain ⟨bub, buo, hbu, hub, hur⟩ := hU hn0
  obtain rfl := Option.some.inj hbs
  obtain rfl := Option.some.inj hbu
  obtain ⟨ba, oa, rfl, hba, hra⟩ := hA (by omega)
  have HA := Lib.hid hA
  have HS := Lib.hid hS
  have HU := Lib.hid hU
  have HR := Lib.hid (hra n (by omega))
  have HIh := Lib.hid ih
  have HSl := Lib.hid hsl
  have HUl := Lib.hid hul
  have HL := Lib.hid hl
  have HE : Hid (srch l (f + 1) s u = srchK (srch l f) l s u (8 - 0)) := Lib.hid rfl
  generalize srch l (f + 1) s u = R at *
  obtain ⟨i3, J0, J1, J2, J3⟩ := info_parts (show (Try.prog.info? 3).map (fun i => (i.zero, i.size, i.bytes)) = some (some (.int .i64 0), 1, 8) by kernel_rfl)
  obtain ⟨i23, E0, E1, E2, E3⟩ := info_parts (show (Try.prog.info? 23).map (fun i => (i.zero, i.size, i.bytes)) = some (some (.agg #[.int .i64 0, .int .i64 0, .int .i64 0, .int .i64 0]), 4, 32) by kernel_rfl)
  have hnN : ((n : Int) == (N : Int)) = false := by simp; omega
  have hn1 : (0 : Int) ≤ (n : Int) := by omega
  have hn2 : (n : Int) < (N : Int) := by omega
  have hn3 : (n : Int) ≤ (cs : Int) := by omega
  have hn4 : (n : Int) ≤ (cu : Int) := by omega
  clear hA hS hU ih hsl hul hl hsr hur hra hbs hbu
  go_enter Try.func19, Try.ntmps19
  go_wp2_with fail
  go_loopw [18] (fun i wr => ∃ j : Nat, j ≤ 8 ∧ i = .int .i64 (j : Int) ∧ Hid (R = srchK (srch l f) l s u (8 - j)) ∧ Below w.heap.size w wr) (fun i _ => 8 - (intOf i).toNat)
  case atStart => exact ⟨0, by omega, rfl, HE, Below.refl _ _⟩
  case round =>
    obtain ⟨j, hj, rfl, HK, hbr⟩ := hrel
    by_cases hlt : j < 8
    · have hj0 : (0 : Int) ≤ (j : Int) := by omega
      have hj8 : (j : Int) < 8 := by omega
      obtain ⟨it, hit⟩ : ∃ it, l[n]! = it := ⟨_, rfl⟩
      have HKN := Lib.hid (srchK_next (f := srch l f) (l := l) (s := s) (u := u) hlt)
      have hc := HR.out
      rw [hit] at hc
      rw [HSl.out, hit] at HKN
      have HBr := Lib.hid hbr
      have c0 : wr.cell? ⟨ba, oa + n * 4, none⟩ = some (.int .i64 it.x) := (hbr.cell (p := ⟨ba, oa + n * 4, none⟩) hba).trans (hc 0 _ rfl)
      have c1 : wr.cell? ⟨ba, oa + n * 4 + 1, none⟩ = some (.int .i64 it.y) := (hbr.cell (p := ⟨ba, oa + n * 4 + 1, none⟩) hba).trans (hc 1 _ rfl)
      have c2 : wr.cell? ⟨ba, oa + n * 4 + 2, none⟩ = some (.int .i64 it.w) := (hbr.cell (p := ⟨ba, oa + n * 4 + 2, none⟩) hba).trans (hc 2 _ rfl)
      have c3 : wr.cell? ⟨ba, oa + n * 4 + 3, none⟩ = some (.int .i64 it.h) := (hbr.cell (p := ⟨ba, oa + n * 4 + 3, none⟩) hba).trans (hc 3 _ rfl)
      have HBox := Lib.hid (box_any it j hlt wr)
      obtain ⟨bx, hbx⟩ : ∃ bx, boxS it j = bx := ⟨_, rfl⟩
      rw [hbx] at HBox HKN
      obtain ⟨r, hr⟩ : ∃ r, freeB l u bx = r := ⟨_, rfl⟩
      rw [hr] at HKN
      have HFr := Lib.hid (fun (W : World) (hW : Below w.heap.size w W) => free_any (some ⟨ba, oa, none⟩) (some ⟨bub, buo, none⟩) N n cl cu l u bx W ((HA.out.below hW).more hW.size) ((HU.out.below hW).more hW.size) HL.out HUl.out (by omega) (by omega))
      rw [hr] at HFr
      obtain ⟨b1, b2, b3, b4⟩ := bx
      dsimp only at HBox HFr
      clear hc hbr hit hbx hr
      cases r with
      | false =>
        go_wp2_with (first
          | (go_at_call 20; go_loud (refine HBox.out.mono ?_; rintro e w1 ⟨rfl, hb1⟩; have B1 := HBr.out.trans (hb1.mono HBr.out.size); have B2 := B1.alloc B1.size (.cells #[.int .i64 b1, .int .i64 b2, .int .i64 b3, .int .i64 b4] 23)))
          | (go_at_call 21; go_loud (refine (HFr.out _ B2).mono ?_; rintro e w3 ⟨rfl, hb3⟩; have B3 := B2.trans (hb3.mono B2.size))))
        go_roundw
        case rel => exact ⟨j + 1, by omega, by go_num, Lib.hid (by rw [HK.out, HKN.out]; rfl), B3⟩
        case measure => simp [intOf]; omega
      | true =>
        go_wp2_with (first
          | (go_at_call 20; go_loud (refine HBox.out.mono ?_; rintro e w1 ⟨rfl, hb1⟩; have B1 := HBr.out.trans (hb1.mono HBr.out.size); have B2 := B1.alloc B1.size (.cells #[.int .i64 b1, .int .i64 b2, .int .i64 b3, .int .i64 b4] 23)))
          | (go_at_call 21; go_loud (refine (HFr.out _ B2).mono ?_; rintro e w3 ⟨rfl, hb3⟩; have B3 := Lib.hid (B2.trans (hb3.mono B2.size)); have G3 := Lib.hid ((hb3.block _ (by simp)).trans (heap_alloc_new w1 (.cells #[.int .i64 b1, .int .i64 b2, .int .i64 b3, .int .i64 b4] 23))))))
        have hgb : w1.heap.size < w3.heap.size := (Array.getElem?_eq_some_iff.1 G3.out).1
        have d0 := cell_of_row w3 _ 0 _ 23 (0, 0) G3.out
        have d1 := cell_of_row w3 _ 1 _ 23 (0, 0) G3.out
        have d2 := cell_of_row w3 _ 2 _ 23 (0, 0) G3.out
        have d3 := cell_of_row w3 _ 3 _ 23 (0, 0) G3.out
        obtain ⟨gb, hgbe⟩ : ∃ gb, w1.heap.size = gb := ⟨_, rfl⟩
        rw [hgbe] at d0 d1 d2 d3 hgb ⊢
        clear hb1 hb3 B1 B2 c0 c1 c2 c3
        have hs0 : Below w3.heap.size w3 w3.drew ∧ w3.drew.cell? ⟨gb, 0, none⟩ = some (.int .i64 b1) ∧ w3.drew.cell? ⟨gb, 1, none⟩ = some (.int .i64 b2) ∧ w3.drew.cell? ⟨gb, 2, none⟩ = some (.int .i64 b3) ∧ w3.drew.cell? ⟨gb, 3, none⟩ = some (.int .i64 b4) := ⟨(Below.refl _ _).drew, d0, d1, d2, d3⟩
        have hz3 := B3.out.size
        have HK1 := Lib.hid (show ((w3.alloc (.cells #[.int .i64 (j : Int)] 3)).alloc (.cells #[.int .i64 b1, .int .i64 b2, .int .i64 b3, .int .i64 b4] 23)).heap[w3.heap.size + 1]? = some (.cells #[.int .i64 b1, .int .i64 b2, .int .i64 b3, .int .i64 b4] 23 (0, 0)) by have h9 := heap_alloc_new (w3.alloc (.cells #[.int .i64 (j : Int)] 3)) (.cells #[.int .i64 b1, .int .i64 b2, .int .i64 b3, .int .i64 b4] 23); simpa using h9)
        have HK2 := Lib.hid (show w3.heap.size + 1 < ((w3.alloc (.cells #[.int .i64 (j : Int)] 3)).alloc (.cells #[.int .i64 b1, .int .i64 b2, .int .i64 b3, .int .i64 b4] 23)).heap.size by simp)
        have HK3 := Lib.hid (show ((w3.alloc (.cells #[.int .i64 b1, .int .i64 b2, .int .i64 b3, .int .i64 b4] 23)).alloc (.cells #[.int .i64 (j : Int)] 3)).heap[w3.heap.size + 1]? = some (.cells #[.int .i64 (j : Int)] 3 (0, 0)) by have h9 := heap_alloc_new (w3.alloc (.cells #[.int .i64 b1, .int .i64 b2, .int .i64 b3, .int .i64 b4] 23)) (.cells #[.int .i64 (j : Int)] 3); simpa using h9)
        have HLs := Lib.hid (show (s ++ [(j : Int)]).length = n + 1 by rw [List.length_append, HSl.out]; rfl)
        have HLu := Lib.hid (show (u ++ [(⟨b1, b2, b3, b4⟩ : Bx)]).length = n + 1 by rw [List.length_append, HUl.out]; rfl)
        have hcc := fun (bs bu : Addr) (cs cu : Nat) (W : World) h1 h2 h3 h4 h5 => HIh.out bs bu cs cu (s ++ [(j : Int)]) (u ++ [⟨b1, b2, b3, b4⟩]) W h1 h2 h3 HLs.out HLu.out h4 h5
        cases ho : srch l f (s ++ [(j : Int)]) (u ++ [⟨b1, b2, b3, b4⟩]) with
        | none =>
          rw [ho] at HKN hcc
          have HC := Lib.hid (fun bs bu cs cu W h1 h2 h3 h4 h5 => (hcc bs bu cs cu W h1 h2 h3 h4 h5).mono fun _ _ h => h.no)
          clear ho hcc d0 d1 d2 d3
          go_region_held3 (fun W => Below w3.heap.size w3 W ∧ W.cell? ⟨gb, 0, none⟩ = some (.int .i64 b1) ∧ W.cell? ⟨gb, 1, none⟩ = some (.int .i64 b2) ∧ W.cell? ⟨gb, 2, none⟩ = some (.int .i64 b3) ∧ W.cell? ⟨gb, 3, none⟩ = some (.int .i64 b4)) (first | assumption | exact sr_alloc _ hgb (by assumption) | exact sr_below (by assumption) hgb (by assumption)) (first
            | (refine step_append_grows rfl (.tmp 35) (.tmp 37) 32 rfl 3 i3 (.int .i64 0) 1 8 Try.underlying32 J0 J1 J2 J3 rfl (by decide) (some ⟨bsb, bso, none⟩) n n (rowsV intV1 s) rfl (fun h => by cases h) (by rw [rowsV_len (k := 1) (fun _ => rfl), HSl.out]) (sr_row (k := 1) (fun _ => rfl) (by decide) HS.out hn0 HSl.out B3.out (by assumption)) _ 1 1 [.int .i64 (j : Int)] rfl rfl (sr_new (cs := #[.int .i64 (j : Int)]) (e := 3) (by first | exact heap_alloc_new _ _ | exact (Below.heap_alloc _ _ _ (by simp)).trans (heap_alloc_new _ _) | exact HK3.out)) (by simp [Value.oneCell']) (by omega) (by unfold maxLen; omega) (by omega) ?_; intro v7 w7 hown7 hgr7; have B7 := below_grow hgr7; obtain ⟨g7, cap7, rfl, hbg7, hlt7⟩ := hown7.form (by omega); have O7 := Lib.hid hown7; clear hown7 hgr7)
            | (refine step_append_grows rfl (.tmp 42) (.tmp 44) 45 rfl 23 i23 (.agg #[.int .i64 0, .int .i64 0, .int .i64 0, .int .i64 0]) 4 32 Try.underlying45 E0 E1 E2 E3 rfl (by decide) (some ⟨bub, buo, none⟩) n n (rowsV bxV u) rfl (fun h => by cases h) (by rw [rowsV_len (k := 4) (fun _ => rfl), HUl.out]) (sr_row (k := 4) (fun _ => rfl) (by decide) HU.out hn0 HUl.out B3.out (by assumption)) _ 1 1 [.int .i64 b1, .int .i64 b2, .int .i64 b3, .int .i64 b4] rfl rfl (sr_new (cs := #[.int .i64 b1, .int .i64 b2, .int .i64 b3, .int .i64 b4]) (e := 23) (by first | exact heap_alloc_new _ _ | exact (B7.block _ (by simp <;> omega)).trans ((Below.heap_alloc _ _ _ (by simp)).trans (heap_alloc_new _ _)) | exact (B7.block _ HK2.out).trans HK1.out)) (by simp [Value.oneCell']) (by omega) (by unfold maxLen; omega) (by omega) ?_; intro v14 w14 hown14 hgr14; have B14 := below_grow hgr14; obtain ⟨g14, cap14, rfl, hbg14, hlt14⟩ := hown14.form (by omega); have O14 := Lib.hid hown14; clear hown14 hgr14)
            | (go_at_call 19; go_loud (refine (HC.out ⟨g7, 0, none⟩ ⟨g14, 0, none⟩ cap7 cap14 _ (sr_items HA.out B3.out (by assumption)) (Sl_rows (k := 1) (fun _ => rfl) (own_below (show w7.ownsRow _ _ _ _ _ (rowsV intV1 (s ++ [(j : Int)])) by rw [rowsV_append]; exact O7.out) (show Below w7.heap.size w7 _ by first | exact B14 | exact ((Below.refl _ w7).alloc (Nat.le_refl _) _).trans (B14.mono (by simp))) (Nat.le_refl _)) HLs.out (by decide)) (Sl_rows (k := 4) (fun _ => rfl) (show w14.ownsRow _ _ _ _ _ (rowsV bxV (u ++ [⟨b1, b2, b3, b4⟩])) by rw [rowsV_append]; exact O14.out) HLu.out (by decide)) (own_cap O7.out).1 (own_cap O14.out).1).mono ?_; rintro e w15 ⟨rfl, hb15⟩)))
          all_goals
            go_wp2_with fail
            go_roundw
            case rel => exact ⟨j + 1, by omega, by go_num, Lib.hid (by rw [HK.out, HKN.out]; rfl), sr_out B3.out (by assumption)⟩
            case measure => simp [intOf]; omega
        | some out =>
          rw [ho] at HKN hcc
          have HC := Lib.hid (fun bs bu cs cu W h1 h2 h3 h4 h5 => (hcc bs bu cs cu W h1 h2 h3 h4 h5).mono fun _ _ h => h.yes)
          clear ho hcc d0 d1 d2 d3
          go_region_held3 (fun W => Below w3.heap.size w3 W ∧ W.cell? ⟨gb, 0, none⟩ = some (.int .i64 b1) ∧ W.cell? ⟨gb, 1, none⟩ = some (.int .i64 b2) ∧ W.cell? ⟨gb, 2, none⟩ = some (.int .i64 b3) ∧ W.cell? ⟨gb, 3, none⟩ = some (.int .i64 b4)) (first | assumption | exact sr_alloc _ hgb (by assumption) | exact sr_below (by assumption) hgb (by assumption)) (first
            | (refine step_append_grows rfl (.tmp 35) (.tmp 37) 32 rfl 3 i3 (.int .i64 0) 1 8 Try.underlying32 J0 J1 J2 J3 rfl (by decide) (some ⟨bsb, bso, none⟩) n n (rowsV intV1 s) rfl (fun h => by cases h) (by rw [rowsV_len (k := 1) (fun _ => rfl), HSl.out]) (sr_row (k := 1) (fun _ => rfl) (by decide) HS.out hn0 HSl.out B3.out (by assumption)) _ 1 1 [.int .i64 (j : Int)] rfl rfl (sr_new (cs := #[.int .i64 (j : Int)]) (e := 3) (by first | exact heap_alloc_new _ _ | exact (Below.heap_alloc _ _ _ (by simp)).trans (heap_alloc_new _ _) | exact HK3.out)) (by simp [Value.oneCell']) (by omega) (by unfold maxLen; omega) (by omega) ?_; intro v7 w7 hown7 hgr7; have B7 := below_grow hgr7; obtain ⟨g7, cap7, rfl, hbg7, hlt7⟩ := hown7.form (by omega); have O7 := Lib.hid hown7; clear hown7 hgr7)
            | (refine step_append_grows rfl (.tmp 42) (.tmp 44) 45 rfl 23 i23 (.agg #[.int .i64 0, .int .i64 0, .int .i64 0, .int .i64 0]) 4 32 Try.underlying45 E0 E1 E2 E3 rfl (by decide) (some ⟨bub, buo, none⟩) n n (rowsV bxV u) rfl (fun h => by cases h) (by rw [rowsV_len (k := 4) (fun _ => rfl), HUl.out]) (sr_row (k := 4) (fun _ => rfl) (by decide) HU.out hn0 HUl.out B3.out (by assumption)) _ 1 1 [.int .i64 b1, .int .i64 b2, .int .i64 b3, .int .i64 b4] rfl rfl (sr_new (cs := #[.int .i64 b1, .int .i64 b2, .int .i64 b3, .int .i64 b4]) (e := 23) (by first | exact heap_alloc_new _ _ | exact (B7.block _ (by simp <;> omega)).trans ((Below.heap_alloc _ _ _ (by simp)).trans (heap_alloc_new _ _)) | exact (B7.block _ HK2.out).trans HK1.out)) (by simp [Value.oneCell']) (by omega) (by unfold maxLen; omega) (by omega) ?_; intro v14 w14 hown14 hgr14; have B14 := below_grow hgr14; obtain ⟨g14, cap14, rfl, hbg14, hlt14⟩ := hown14.form (by omega); have O14 := Lib.hid hown14; clear hown14 hgr14)
            | (go_at_call 19; go_loud (refine (HC.out ⟨g7, 0, none⟩ ⟨g14, 0, none⟩ cap7 cap14 _ (sr_items HA.out B3.out (by assumption)) (Sl_rows (k := 1) (fun _ => rfl) (own_below (show w7.ownsRow _ _ _ _ _ (rowsV intV1 (s ++ [(j : Int)])) by rw [rowsV_append]; exact O7.out) (show Below w7.heap.size w7 _ by first | exact B14 | exact ((Below.refl _ w7).alloc (Nat.le_refl _) _).trans (B14.mono (by simp))) (Nat.le_refl _)) HLs.out (by decide)) (Sl_rows (k := 4) (fun _ => rfl) (show w14.ownsRow _ _ _ _ _ (rowsV bxV (u ++ [⟨b1, b2, b3, b4⟩])) by rw [rowsV_append]; exact O14.out) HLu.out (by decide)) (own_cap O7.out).1 (own_cap O14.out).1).mono ?_; rintro e w15 ⟨A15, c15, rfl, hs15, hb15⟩; have S15 := Lib.hid hs15; clear hs15)))
          all_goals
            go_wp2_with fail
            go_ret
            have hR : R = some out := HK.out.trans (HKN.out.trans rfl)
            subst hR
            exact ⟨some A15, c15, rfl, (fun h => by cases h), (fun _ h => by cases h), S15.out, sr_out B3.out (by assumption)⟩
    · obtain rfl : j = 8 := by omega
      have HBe := Lib.hid hbr
      have hR : R = none := HK.out.trans rfl
      subst hR
      clear hbr
      go_wp2_with fail
      go_ret
      exact ⟨none, 0, rfl, fun _ => ⟨rfl, rfl⟩, (fun h => by cases h), Sl.none_, HBe.out⟩
end Go.Proofs.Ytpnihjomemojlaa
