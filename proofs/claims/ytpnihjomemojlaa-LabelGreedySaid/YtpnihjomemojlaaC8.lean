/- The walk of LabelGreedy, where the labels are sound. -/
import Derived.Test.YtpnihjomemojlaaC6
import Derived.Test.YtpnihjomemojlaaC4
import Derived.Test.YtpnihjomemojlaaC7
import Derived.Test.YtpnihjomemojlaaCloneInts
import Derived.Test.YtpnihjomemojlaaB8
namespace Go.Proofs.Ytpnihjomemojlaa
open Go.RowKit

theorem Fit_congr {l : List It} {sp sp' : Nat → Int} (h : ∀ i, i < l.length → sp i = sp' i) (hf : Fit l sp) : Fit l sp' := fun i hi h0 => by
  rw [← h i hi] at h0 ⊢
  obtain ⟨h1, h2⟩ := hf i hi h0
  refine ⟨h1, fun k hk hk0 x y hxy => ?_⟩
  rw [← h k (by omega)] at hk0 ⊢
  exact h2 k hk hk0 x y hxy
theorem gsp_lt (l : List It) (k : Nat) : gsp l k < 8 := by
  unfold gsp
  cases h : spotF l (greedyG l k).2 l[k]! with
  | none => decide
  | some s => have := (spotF_iff h).1; simp only; omega
theorem greedy_at {l : List It} {q k : Nat} (hk : k < q) : (greedyG l q).1[k]! = gsp l k := by
  rw [greedy_fst]
  simp [hk]
theorem place_greedy {l : List It} (h0 : ckL l = 0) (h6 : l.length ≤ 6) (hn : ¬ (-1 : Int) ∈ (greedyG l l.length).1) : placeX l = ((greedyG l l.length).1, 0) := by
  unfold placeX
  rw [if_neg (fun h => h h0), if_neg (by omega)]
  by_cases hz : l.length = 0
  · rw [if_pos hz, hz]; rfl
  · rw [if_neg hz]
    have := srch_greedy (l := l) (fun k hk e => hn (by
      rw [greedy_fst]
      exact List.mem_map.2 ⟨k, List.mem_range.2 hk, e⟩)) l.length 0 (by omega)
    have h2 : srch l l.length [] [] = some (greedyG l l.length).1 := this
    rw [h2]

set_option maxRecDepth 100000 in
set_option maxHeartbeats 8000000 in
theorem Greedy_good (a : Addr) (n c : Nat) (l : List It) (w : World) (hA : Sl w w.heap.size 4 (some a) n (fun i => itV l[i]!)) (hl : l.length = n) (hnc : n ≤ c) (hw : ∀ i ∈ l, -9223372036854775808 ≤ i.x ∧ -9223372036854775808 ≤ i.y) (hck : ckL (l.take (min n 6)) = 0) :
    Calls Try.prog 5 #[.slice (some a) n c] w fun e w' => e = .returned (.bool true) ∧ Below w.heap.size w w' := by
  obtain ⟨q, hq⟩ : ∃ q, min n 6 = q := ⟨_, rfl⟩
  have hqn : q ≤ n := by omega
  have hq6 : q ≤ 6 := by omega
  have hqc : q ≤ c := by omega
  have hmin : min (n : Int) 6 = (q : Int) := by omega
  have hq0 : (0 : Int) ≤ (q : Int) := by omega
  have hqcI : (q : Int) ≤ (c : Int) := by omega
  rw [hq] at hck
  obtain ⟨m, hm⟩ : ∃ m, l.take q = m := ⟨_, rfl⟩
  rw [hm] at hck
  have hml : m.length = q := by rw [← hm, List.length_take]; omega
  have hmi : ∀ i, i < q → itV l[i]! = itV m[i]! := fun i hi => by
    rw [getElem!_pos l i (by omega), getElem!_pos m i (by omega)]
    subst hm
    rw [List.getElem_take]
  have hS0 : Sl w w.heap.size 4 (some a) q (fun i => itV m[i]!) := (hA.less hqn).congr hmi
  have hokm := okC_of hck (fun i hi => hw i (List.mem_of_mem_take (by rw [← hm] at hi; exact hi)))
  have hlg := (greedyG_len m q).1
  have HG := Lib.hid (fun (W : World) (hW : Below w.heap.size w W) => Greedy_any (some a) q c m W ((hS0.below hW).more hW.size) hml (by omega))
  unfold GreedyP at HG
  rw [show greedyX m = ((greedyG m q).1, 0) by unfold greedyX; rw [if_neg (fun h => h hck), hml]] at HG
  dsimp only at HG
  rw [hlg] at HG
  have HPl := Lib.hid (fun (W : World) (hW : Below w.heap.size w W) => Place_any (some a) q c m W ((hS0.below hW).more hW.size) hml (by omega))
  unfold PlaceP at HPl
  have hgat : ∀ k, k < q → (greedyG m q).1[k]! = gsp m k := fun k hk => greedy_at hk
  have hpg : ¬ (-1 : Int) ∈ (greedyG m q).1 → placeX m = ((greedyG m q).1, 0) := fun h => by
    have := place_greedy hck (by omega) (by rw [hml]; exact h)
    rw [hml] at this; exact this
  have hplen := placeX_len m
  have HFit := Lib.hid (fun (G : Option Addr) (cg : Nat) (W : World) (hW : Below w.heap.size w W) (hG : Sl W W.heap.size 1 G q (fun i => intV1 (greedyG m q).1[i]!)) =>
    Fit_any (some a) G q c cg m (greedyG m q).1 W ((hS0.below hW).more hW.size) hG hml hq6 hqc hokm (fun i hi => by rw [hgat i hi]; exact gsp_lt m i))
  have HFt := Lib.hid (Fit_congr (sp := gsp m) (sp' := fun i => (greedyG m q).1[i]!) (fun i hi => (hgat i (by omega)).symm) (greedy_fit hokm))
  have HBest := Lib.hid (fun (k s : Nat) (hk : k < q) (hs : s < 8) hf ho => greedy_best hokm (k := k) (s := s) (by omega) hs hf ho)
  have HGat := Lib.hid hgat
  obtain ⟨g, hg⟩ : ∃ g, (greedyG m q).1 = g := ⟨_, rfl⟩
  rw [hg] at HG hpg HFit HFt HGat hlg
  obtain ⟨R, hR⟩ : ∃ R, placeX m = R := ⟨_, rfl⟩
  rw [hR] at HPl hpg hplen
  obtain ⟨R1, R2⟩ := R
  dsimp only at HPl hplen
  have HPg := Lib.hid hpg
  have HLg := Lib.hid hlg
  have HLm := Lib.hid hml
  have HS0 := Lib.hid hS0
  have HOk := Lib.hid hokm
  have HPlen := Lib.hid hplen
  clear hA hl hw hck hm hml hmi hS0 hokm hlg hgat hpg hg hR hplen
  go_enter Try.func5, Try.ntmps5
  go_wp2_with (first
    | (go_at_call 14; have _h := B3; go_loud (refine (HFit.out _ _ _ B3.out (((G1.out.below B12.out).more B12.out.size).below B23.out |>.more B23.out.size)).mono ?_; rintro e w4 ⟨⟨r, rfl, hr⟩, hb4⟩; obtain rfl : r = true := hr.2 HFt.out; have B4 := Lib.hid (B3.out.trans (hb4.mono B3.out.size)); have B34 := Lib.hid hb4; clear hb4 hr))
    | (go_at_call 11; have _h := B2; go_loud (refine (fact_any _).mono ?_; rintro e w3 ⟨rfl, hb3⟩; have B3 := Lib.hid (B2.out.trans (hb3.mono B2.out.size)); have B23 := Lib.hid hb3; clear hb3))
    | (go_at_call 10; have _h := B1; go_loud (refine (HPl.out _ B1.out).mono ?_; rintro e w2 ⟨P, cp, rfl, hs2, hb2⟩; have P2 := Lib.hid hs2; have B2 := Lib.hid (B1.out.trans (hb2.mono B1.out.size)); have B12 := Lib.hid hb2; clear hs2 hb2))
    | (go_at_call 13; go_loud (refine (HG.out _ (Below.refl _ _)).mono ?_; rintro e w1 ⟨G, cg, rfl, hqg, hGn, hs1, hb1⟩; have G1 := Lib.hid hs1; have B1 := Lib.hid hb1; have HGn := Lib.hid hGn; clear hs1 hb1 hGn)))
  have G2 := Lib.hid ((G1.out.below B12.out).more B12.out.size)
  have G3 := Lib.hid ((G2.out.below B23.out).more B23.out.size)
  have G4 := Lib.hid ((G3.out.below B34.out).more B34.out.size)
  have P3 := Lib.hid ((P2.out.below B23.out).more B23.out.size)
  have P4 := Lib.hid ((P3.out.below B34.out).more B34.out.size)
  have R4 := Lib.hid (Below.refl w4.heap.size w4)
  have hz4 := B4.out.size
  have hcg : (q : Int) ≤ (cg : Int) := by omega
  clear G1 G2 G3 P2 P3 HG HPl HFt
  go_loopw [7, 8, 9, 10, 11, 60, 65] (fun _ _ _ _ _ t60 _ wr => ∃ k : Nat, k ≤ q ∧ t60 = .int .i64 (k : Int) ∧ Below w4.heap.size w4 wr) (fun _ _ _ _ _ t60 _ _ => q - (intOf t60).toNat)
  case atStart => exact ⟨0, by omega, rfl, R4.out⟩
  case round =>
    obtain ⟨k, hk, rfl, hbr⟩ := hrel
    by_cases hltk : k < q
    · have hk0 : (0 : Int) ≤ (k : Int) := by omega
      have hkq : (k : Int) < (q : Int) := by omega
      obtain ⟨gb, go, rfl, hgb, hgr⟩ := G4.out (by omega)
      have hc : w4.rangeAt gb (go + k * 1) (intV1 g[k]!) := hgr k hltk
      have hgk := HGat.out k hltk
      have c0 : wr.cell? ⟨gb, go + k, none⟩ = some (.int .i64 g[k]!) := by
        have := (hbr.cell (p := ⟨gb, go + k * 1, none⟩) hgb).trans (hc 0 _ rfl)
        simpa using this
      obtain ⟨t, ht⟩ : ∃ t, g[k]! = t := ⟨_, rfl⟩
      rw [ht] at c0 hgk
      have HT := Lib.hid hgk
      have HBr := Lib.hid hbr
      clear hc hgr ht hgk hbr
      go_wp2_with fail
      go_loopw [9, 10, 11, 65] (fun _ _ _ t65 wr => ∃ s : Nat, s ≤ 8 ∧ t65 = .int .i64 (s : Int) ∧ Below w4.heap.size w4 wr) (fun _ _ _ t65 _ => 8 - (intOf t65).toNat)
      case atStart => exact ⟨0, by omega, rfl, HBr.out⟩
      case round =>
        obtain ⟨s, hs, rfl, hbs⟩ := hrel
        by_cases hs8 : s < 8
        · have hs0 : (0 : Int) ≤ (s : Int) := by omega
          have hs1 : (s : Int) < 8 := by omega
          have hk1 : (k : Int) + 1 ≤ (cg : Int) := by omega
          have hk2 : (k : Int) + 1 ≤ (c : Int) := by omega
          have hk3 : (0 : Int) ≤ (k : Int) + 1 := by omega
          have hkk : (k : Int) < (k : Int) + 1 := by omega
          have hto : ((k : Int) + 1).toNat = k + 1 := by omega
          have BS := Lib.hid (B4.out.trans (hbs.mono hz4))
          have HBs := Lib.hid hbs
          have hgl : (g.take (k + 1)).length = k + 1 := by rw [List.length_take, HLg.out]; omega
          have hrow : Sl wr wr.heap.size 1 (some ⟨gb, go, none⟩) (k + 1) (fun i => intV1 (g.take (k + 1))[i]!) := (((G4.out.below hbs).more hbs.size).less (by omega)).congr fun i hi => by
            rw [getElem!_pos g i (by rw [HLg.out]; omega), getElem!_pos _ i (by rw [hgl]; exact hi), List.getElem_take]
          have hcl := CloneInts_any (some ⟨gb, go, none⟩) (k + 1) cg (fun i => intV1 (g.take (k + 1))[i]!) wr hrow (fun _ _ => rfl) (fun i _ u hu => by rw [List.mem_singleton.1 hu]; rfl) (fun h => by cases h) (by unfold maxLen; omega) (by omega)
          rw [show flatR (fun i => intV1 (g.take (k + 1))[i]!) (k + 1) = rowsV intV1 (g.take (k + 1)) by rw [rowsV_flat (k := 1) (fun _ => rfl), hgl]] at hcl
          have HCl := Lib.hid hcl
          have HGl := Lib.hid hgl
          -- the row with s at k
          obtain ⟨sp, hsp⟩ : ∃ sp, (g.take (k + 1)).set k (s : Int) = sp := ⟨_, rfl⟩
          have hspl : sp.length = k + 1 := by rw [← hsp, List.length_set]; exact hgl
          have hspat : ∀ i, i < k + 1 → sp[i]! = if i = k then (s : Int) else gsp m i := fun i hi => by
            rw [← hsp, getElem!_pos _ i (by rw [List.length_set, hgl]; exact hi), List.getElem_set]
            by_cases e : i = k
            · rw [if_pos e.symm, if_pos e]
            · rw [if_neg (fun h => e h.symm), if_neg e, List.getElem_take, ← HGat.out i (by omega), getElem!_pos g i (by rw [HLg.out]; omega)]
          have hset : (rowsV intV1 (g.take (k + 1))).set (k * 1 + 0) (.int .i64 (s : Int)) = rowsV intV1 sp := by
            rw [← hsp]
            exact rowsV_cell (k := 1) (fun _ => rfl) _ k (by rw [hgl]; omega) 0 (by decide) _ _ rfl
          have HSet := Lib.hid hset
          have HSpl := Lib.hid hspl
          have hmt : (m.take (k + 1)).length = k + 1 := by rw [List.length_take, HLm.out]; omega
          have HFit2 := Lib.hid (fun (h : Addr) (ch : Nat) (W : World) (hW : Below w.heap.size w W) (hG : Sl W W.heap.size 1 (some h) (k + 1) (fun i => intV1 sp[i]!)) =>
            Fit_any (some a) (some h) (k + 1) c ch (m.take (k + 1)) sp W ((((HS0.out.below hW).more hW.size).less (by omega)).congr fun i hi => by
              rw [getElem!_pos m i (by rw [HLm.out]; omega), getElem!_pos _ i (by rw [hmt]; exact hi), List.getElem_take]) hG hmt (by omega) (by omega) (fun i hi => HOk.out i (List.mem_of_mem_take hi)) (fun i hi => by
              rw [hspat i hi]
              split
              · omega
              · exact gsp_lt m i))
          have HCong := Lib.hid (fun (hf : Fit (m.take (k + 1)) (fun i => sp[i]!)) => Fit_congr (sp' := fun i => if i = k then (s : Int) else gsp m i) (fun i hi => hspat i (by omega)) hf)
          have HOut := Lib.hid (fun (W : World) (hW : Below w.heap.size w W) => outside_any (some a) q c m k s W ((HS0.out.below hW).more hW.size) HLm.out (by omega) hltk hs8)
          obtain ⟨F, hF⟩ : ∃ F, Fit (m.take (k + 1)) (fun i => sp[i]!) = F := ⟨_, rfl⟩
          rw [hF] at HFit2 HCong
          obtain ⟨ro, hro⟩ : ∃ ro, (m.any fun x => insB (boxS m[k]! s) x.x x.y) = ro := ⟨_, rfl⟩
          rw [hro] at HOut
          have hbest : F → ro = false → 0 ≤ t ∧ t ≤ (s : Int) := fun hf hr => by
            rw [HT.out]
            refine HBest.out k s hltk hs8 (HCong.out hf) fun x hx => ?_
            cases hb : insB (boxS m[k]! s) x.x x.y with
            | false => rfl
            | true =>
              have : (m.any fun x => insB (boxS m[k]! s) x.x x.y) = true := List.any_eq_true.2 ⟨x, hx, hb⟩
              rw [hro, hr] at this
              cases this
          have HBs2 := Lib.hid hbest
          clear hgl hrow hcl hsp hspl hspat hset hmt hF hro hbest hbs
          by_cases hF : F
          · have HF := Lib.hid hF
            cases ro with
            | true =>
              clear hF
              go_wp2_with (first
                | (go_at_call 15; go_loud (refine HCl.out.mono ?_; rintro e w5 ⟨v5, rfl, ho5, hb5⟩; obtain ⟨A5, c5, rfl⟩ := own_shape ho5; obtain ⟨gh, cap5, hv5, hbg5, hlt5⟩ := ho5.form (by omega); obtain rfl : A5 = some ⟨gh, 0, none⟩ := (Value.slice.inj hv5).1; have hcap5 := own_cap ho5; unfold maxLen at hcap5; have s5 := own_some ho5 k (by omega); obtain ⟨zz, z5⟩ := Option.isSome_iff_exists.1 s5.1; have y5 := s5.2; have B5 := Lib.hid (HBs.out.trans (hb5.mono HBs.out.size)); have hst := (ho5.stored (k * 1 + 0) (.int .i64 (s : Int))).1; rw [HSet.out] at hst; simp only [Nat.mul_one, Nat.add_zero] at hst; have S6 := Lib.hid (Sl_rows (k := 1) (fun _ => rfl) hst HSpl.out (by decide)); have B6 := Lib.hid (B5.out.setCell (p := ⟨gh, k, none⟩) (Nat.le_trans HBs.out.size hbg5) (.int .i64 (s : Int))); have W6 := Lib.hid (B4.out.trans (B6.out.mono hz4)); clear ho5 hb5 hv5 s5 hst))
                | (go_at_call 14; go_loud (refine (HFit2.out ⟨gh, 0, none⟩ c5 _ W6.out S6.out).mono ?_; rintro e w7 ⟨⟨r, rfl, hr⟩, hb7⟩; obtain rfl : r = true := hr.2 HF.out; have B7 := Lib.hid (B6.out.trans (hb7.mono B6.out.size)); have W7 := Lib.hid (W6.out.trans (hb7.mono W6.out.size)); clear hb7 hr))
                | (go_at_call 16; go_loud (refine (HOut.out _ W7.out).mono ?_; rintro e w8 ⟨rfl, hb8⟩; have B8 := Lib.hid (B7.out.trans (hb8.mono B7.out.size)); clear hb8)))
              go_roundw
              case rel => exact ⟨s + 1, by omega, by go_num, B8.out⟩
              case measure => simp [intOf]; omega
            | false =>
              obtain ⟨ht1, ht2⟩ := HBs2.out hF rfl
              have n1 : ¬ t < 0 := by omega
              have n2 : ¬ (s : Int) < t := by omega
              clear hF
              go_wp2_with (first
                | (go_at_call 15; go_loud (refine HCl.out.mono ?_; rintro e w5 ⟨v5, rfl, ho5, hb5⟩; obtain ⟨A5, c5, rfl⟩ := own_shape ho5; obtain ⟨gh, cap5, hv5, hbg5, hlt5⟩ := ho5.form (by omega); obtain rfl : A5 = some ⟨gh, 0, none⟩ := (Value.slice.inj hv5).1; have hcap5 := own_cap ho5; unfold maxLen at hcap5; have s5 := own_some ho5 k (by omega); obtain ⟨zz, z5⟩ := Option.isSome_iff_exists.1 s5.1; have y5 := s5.2; have B5 := Lib.hid (HBs.out.trans (hb5.mono HBs.out.size)); have hst := (ho5.stored (k * 1 + 0) (.int .i64 (s : Int))).1; rw [HSet.out] at hst; simp only [Nat.mul_one, Nat.add_zero] at hst; have S6 := Lib.hid (Sl_rows (k := 1) (fun _ => rfl) hst HSpl.out (by decide)); have B6 := Lib.hid (B5.out.setCell (p := ⟨gh, k, none⟩) (Nat.le_trans HBs.out.size hbg5) (.int .i64 (s : Int))); have W6 := Lib.hid (B4.out.trans (B6.out.mono hz4)); clear ho5 hb5 hv5 s5 hst))
                | (go_at_call 14; go_loud (refine (HFit2.out ⟨gh, 0, none⟩ c5 _ W6.out S6.out).mono ?_; rintro e w7 ⟨⟨r, rfl, hr⟩, hb7⟩; obtain rfl : r = true := hr.2 HF.out; have B7 := Lib.hid (B6.out.trans (hb7.mono B6.out.size)); have W7 := Lib.hid (W6.out.trans (hb7.mono W6.out.size)); clear hb7 hr))
                | (go_at_call 16; go_loud (refine (HOut.out _ W7.out).mono ?_; rintro e w8 ⟨rfl, hb8⟩; have B8 := Lib.hid (B7.out.trans (hb8.mono B7.out.size)); clear hb8)))
              go_roundw
              case rel => exact ⟨s + 1, by omega, by go_num, B8.out⟩
              case measure => simp [intOf]; omega
          · have HF := Lib.hid hF
            clear hF
            go_wp2_with (first
              | (go_at_call 15; go_loud (refine HCl.out.mono ?_; rintro e w5 ⟨v5, rfl, ho5, hb5⟩; obtain ⟨A5, c5, rfl⟩ := own_shape ho5; obtain ⟨gh, cap5, hv5, hbg5, hlt5⟩ := ho5.form (by omega); obtain rfl : A5 = some ⟨gh, 0, none⟩ := (Value.slice.inj hv5).1; have hcap5 := own_cap ho5; unfold maxLen at hcap5; have s5 := own_some ho5 k (by omega); obtain ⟨zz, z5⟩ := Option.isSome_iff_exists.1 s5.1; have y5 := s5.2; have B5 := Lib.hid (HBs.out.trans (hb5.mono HBs.out.size)); have hst := (ho5.stored (k * 1 + 0) (.int .i64 (s : Int))).1; rw [HSet.out] at hst; simp only [Nat.mul_one, Nat.add_zero] at hst; have S6 := Lib.hid (Sl_rows (k := 1) (fun _ => rfl) hst HSpl.out (by decide)); have B6 := Lib.hid (B5.out.setCell (p := ⟨gh, k, none⟩) (Nat.le_trans HBs.out.size hbg5) (.int .i64 (s : Int))); have W6 := Lib.hid (B4.out.trans (B6.out.mono hz4)); clear ho5 hb5 hv5 s5 hst))
              | (go_at_call 14; go_loud (refine (HFit2.out ⟨gh, 0, none⟩ c5 _ W6.out S6.out).mono ?_; rintro e w7 ⟨⟨r, rfl, hr⟩, hb7⟩; obtain rfl : r = false := Bool.eq_false_iff.2 (fun e => HF.out (hr.1 e)); have B7 := Lib.hid (B6.out.trans (hb7.mono B6.out.size)); have W7 := Lib.hid (W6.out.trans (hb7.mono W6.out.size)); clear hb7 hr)))
            go_roundw
            case rel => exact ⟨s + 1, by omega, by go_num, B7.out⟩
            case measure => simp [intOf]; omega
        · obtain rfl : s = 8 := by omega
          have HBe := Lib.hid hbs
          clear hbs
          go_wp2_with fail
          go_roundw
          case rel => exact ⟨k + 1, by omega, by go_num, HBe.out⟩
          case measure => simp [intOf]; omega
    · obtain rfl : k = q := by omega
      have BE := Lib.hid (B4.out.trans (hbr.mono hz4))
      have HBe := Lib.hid hbr
      have hzb := hbr.size
      have HCo := Lib.hid (fun (W : World) (hW : Below w4.heap.size w4 W) => Contains_any G k cg g (-1) W ((G4.out.below hW).more hW.size) HLg.out (by omega))
      by_cases hin : (-1 : Int) ∈ g
      · rw [show decide ((-1 : Int) ∈ g) = true from decide_eq_true hin] at HCo
        clear hbr hin
        go_wp2_with (go_at_call 17; go_loud (refine (HCo.out _ HBe.out).mono ?_; rintro e w5 ⟨rfl, rfl⟩))
        go_ret
        exact ⟨rfl, BE.out⟩
      · rw [show decide ((-1 : Int) ∈ g) = false from decide_eq_false hin] at HCo
        have hR := HPg.out hin
        obtain ⟨rfl, rfl⟩ : R1 = g ∧ R2 = 0 := ⟨congrArg Prod.fst hR, congrArg Prod.snd hR⟩
        have HEq := Lib.hid (fun (W : World) (hW : Below w4.heap.size w4 W) => Equal_any G P k R1.length cg cp _ (fun i => R1[i]!) (fun i => R1[i]!) W ((G4.out.below hW).more hW.size) ((P4.out.below hW).more hW.size) (by omega) (by have := HLg.out; omega))
        rw [show eqB k R1.length (fun i => R1[i]!) (fun i => R1[i]!) = true from eqB_true HLg.out.symm (fun _ _ => rfl)] at HEq
        clear hbr hin hR
        go_wp2_with (first
          | (go_at_call 17; go_loud (refine (HCo.out _ HBe.out).mono ?_; rintro e w5 ⟨rfl, rfl⟩))
          | (go_at_call 12; go_loud (refine (HEq.out _ HBe.out).mono ?_; rintro e w6 ⟨rfl, hb6⟩)))
        go_ret
        exact ⟨rfl, BE.out.trans (hb6.mono BE.out.size)⟩
end Go.Proofs.Ytpnihjomemojlaa
